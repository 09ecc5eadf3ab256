/-
  The walks of sluicegateref03.Check and sluicegateref03.Codes.
  Conditions: at most 320 lengths, each from 0 to 15.
-/
import Derived.Test.YtpfalaghggjbjaaWL
import Derived.Test.YtpfalaghggjbjaaPlE
import Derived.Test.YtpfalaghggjbjaaWM
namespace Go.Proofs.Ytpfalaghggjbjaa
open Go.RowKit

theorem kraft_take {l : List Nat} {i : Nat} (h : i < l.length) : kraft (l.take (i + 1)) = kraft (l.take i) + if atN l i = 0 then 0 else 2 ^ (15 - atN l i) := by rw [take_atN h, kraft_snoc]

set_option maxRecDepth 100000 in
set_option maxHeartbeats 2000000 in
theorem refCheck_any (a : Option Addr) (N cap : Nat) (l : List Nat) (w : World) (hl : l.length ≤ 320) (h15 : ∀ x ∈ l, x ≤ 15) (h : RI w a N cap (natI l)) :
    Calls Try.prog 97 #[.slice a N cap] w (fun e w' => e = .returned (.tuple #[.bool (checkP l).1, .int .i64 ((checkP l).2 : Int)]) ∧ w = w') := by
  obtain rfl : N = l.length := by have := RI.len h; rw [natI_length] at this; exact this
  obtain ⟨b, off, hidx, hc⟩ := Rd.open h 53 3 Try.underlying53 (by kernel_rfl)
  have hcs : ∀ j, j < l.length → w.cell? ⟨b, off + j, none⟩ = some (.int .i64 ((atN l j : Nat) : Int)) := fun j hj => by
    rw [hc j (by simpa [natI_length] using hj), cI_get, atI_natI]
  have d1 : decide ((320 : Int) < l.length) = false := by simp; omega
  clear hc
  go_enter Try.func97, Try.ntmps97
  go_wp2
  go_loop [4, 5] (fun u v => ∃ i : Nat, u = .int .i64 (kraft (l.take i) : Nat) ∧ v = .int .i64 i ∧ i ≤ l.length) (fun _ v => l.length - (intOf v).toNat)
  case atStart => exact ⟨0, rfl, rfl, by omega⟩
  case round =>
    obtain ⟨i, rfl, rfl, hi⟩ := hrel
    by_cases hlt : i < l.length
    · have c0 := hcs i hlt
      have hx15 : atN l i ≤ 15 := atN_le15 h15 i
      have hk := kraft_take hlt
      have hkl := kraft_le (l.take i)
      have hlen : (l.take i).length ≤ 320 := by simp; omega
      have Hk := Lib.hid hk
      clear hk hcs
      generalize atN l i = x at *
      have hp : 2 ^ (15 - x) ≤ 32768 := Nat.le_trans (Nat.pow_le_pow_right (by omega) (show 15 - x ≤ 15 by omega)) (by decide)
      have d : decide ((i : Int) < l.length) = true := by simp; omega
      by_cases hx0 : x = 0
      · subst hx0
        have e : kraft (l.take (i + 1)) = kraft (l.take i) := by rw [Hk.out]; simp
        have E := Lib.hid e
        clear e
        go_wp2
        go_round
        case rel => exact ⟨i + 1, by rw [E.out], by go_num, by omega⟩
        case measure => simp [intOf]; omega
      · have d2 : 0 < x := by omega
        have e : kraft (l.take (i + 1)) = kraft (l.take i) + 2 ^ (15 - x) := by rw [Hk.out, if_neg hx0]
        have E := Lib.hid e
        clear e
        go_wp2
        go_round
        case rel =>
          refine ⟨i + 1, ?_, by go_num, by omega⟩
          rw [E.out]
          have e1 : (2 : Int) ^ (15 - x) = ((2 ^ (15 - x) : Nat) : Int) := by simp
          rw [e1]
          generalize 2 ^ (15 - x) = P at *
          generalize kraft (List.take i l) = K at *
          rw [wrap64_id (x := (P : Int)) (by omega) (by omega), wrap64_id (by omega) (by omega)]
          exact congrArg _ (by omega)
        case measure => simp [intOf]; omega
    · have hil : i = l.length := by omega
      subst hil
      rw [List.take_length]
      go_wp2
      · have h : 32768 < kraft l := by have := ‹(32768 : Int) < kraft l›; omega
        go_ret2
        have e : checkP l = (false, 7) := by unfold checkP; rw [if_pos h]
        exact ⟨by rw [e]; rfl, rfl⟩
      · have h : ¬ 32768 < kraft l := by have := ‹((kraft l : Nat) : Int) ≤ 32768›; omega
        go_ret2
        have e : checkP l = (decide (kraft l = 32768), 0) := by unfold checkP; rw [if_neg h]
        have e3 : (((kraft l : Nat) : Int) == 32768) = decide (kraft l = 32768) := by rw [Bool.eq_iff_iff]; simp; omega
        refine ⟨?_, rfl⟩
        rw [e, e3]
        rfl

theorem nxt_le {l : List Nat} {L s c p : Nat} (h : RcInv l L s c p) (hl : l.length ≤ 320) (hL : L ≤ 16) : nxt c p L ≤ 20971840 ∧ c ≤ 20971840 := by
  have h1 := Nat.le_trans (firstOf_le (cnt l) 320 (atN_le_of fun x hx => Nat.le_trans (cnt_le l x hx) hl) L) (Nat.mul_le_mul_left 320 (Nat.pow_le_pow_right (by omega : 0 < 2) hL))
  have h2 := List.count_le_length (a := L) (l := l.take s)
  simp at h2
  have hv : nxt c p L ≤ 20971840 := by rw [h.val]; omega
  refine ⟨hv, ?_⟩
  by_cases hp : p = 0
  · rw [h.zero hp]; omega
  · unfold nxt at hv
    rw [if_neg hp] at hv
    have := Nat.le_mul_of_pos_right (c + 1) (Nat.pow_pos (n := L - p) (show 0 < 2 by omega))
    omega

set_option maxRecDepth 100000 in
set_option maxHeartbeats 4000000 in
theorem refCodes_any (a : Option Addr) (N cap : Nat) (l : List Nat) (w : World) (hl : l.length ≤ 320) (h15 : ∀ x ∈ l, x ≤ 15) (hok : (checkP l).2 = 0) (h : RI w a N cap (natI l)) :
    Calls Try.prog 76 #[.slice a N cap] w (RetIE w (codesP l)) := by
  obtain rfl : N = l.length := by have := RI.len h; rw [natI_length] at this; exact this
  obtain ⟨b, off, hidx, hc⟩ := Rd.open h 53 3 Try.underlying53 (by kernel_rfl)
  have hcs : ∀ j, j < l.length → w.cell? ⟨b, off + j, none⟩ = some (.int .i64 ((atN l j : Nat) : Int)) := fun j hj => by
    rw [hc j (by simpa [natI_length] using hj), cI_get, atI_natI]
  have hok' : ((checkP l).2 : Int) = 0 := by rw [hok]; rfl
  have Hok := Lib.hid hok
  clear hc hok
  go_enter Try.func76, Try.ntmps76
  go_wp2_with (first
    | (go_at_call 97; go_must (refine (refCheck_any a l.length cap l _ hl h15 h).mono ?_); rintro e w1 ⟨rfl, rfl⟩)
    | (at_make; go_must (refine wpList_makeI rfl _ _ rfl w.heap.size l.length _ _ rfl rfl rfl rfl (by omega) (Nat.le_refl _) ?_); intro w4 hown hm4))
  have hbel4 : Below w.heap.size w w4 := below_mod (Below.refl _ _) hm4 (Nat.le_refl _) (fun _ _ h => h.elim)
  rw [← rcT_start] at hown
  go_loopw [7, 8, 9] (fun u v x wr => ∃ c p L : Nat, u = .int .i64 c ∧ v = .int .i64 p ∧ x = .int .i64 L ∧ 1 ≤ L ∧ L ≤ 16 ∧ RcInv l L 0 c p ∧ OI wr w.heap.size (some ⟨w.heap.size, 0, none⟩) l.length l.length (rcT l L 0) ∧ Below w.heap.size w wr)
    (fun _ _ x _ => 17 - (intOf x).toNat)
  case atStart => exact ⟨0, 0, 1, rfl, rfl, rfl, by omega, by omega, rc_start l, hown, hbel4⟩
  case round =>
    clear hown hbel4 hm4
    obtain ⟨c, p, L, rfl, rfl, rfl, hL1, hL, hinv, hown, hbel⟩ := hrel
    by_cases hlt : L < 16
    · have d : decide ((L : Int) ≤ 15) = true := by simp; omega
      go_wp2
      go_loopw [7, 8, 10] (fun u v x wr => ∃ c p s : Nat, u = .int .i64 c ∧ v = .int .i64 p ∧ x = .int .i64 s ∧ s ≤ l.length ∧ RcInv l L s c p ∧ OI wr w.heap.size (some ⟨w.heap.size, 0, none⟩) l.length l.length (rcT l L s) ∧ Below w.heap.size w wr)
        (fun _ _ x _ => l.length - (intOf x).toNat)
      case atStart => exact ⟨c, p, 0, rfl, rfl, rfl, by omega, hinv, hown, hbel⟩
      case round =>
        clear hown hbel hinv
        obtain ⟨c, p, s, rfl, rfl, rfl, hs, hinv, hown, hbel⟩ := hrel
        by_cases hlt2 : s < l.length
        · have c0 := cell_below (hcs s hlt2) hbel
          have d2 : decide ((s : Int) < l.length) = true := by simp; omega
          have hn := nxt_le hinv hl (by omega)
          have hple := hinv.le
          by_cases hx : atN l s = L
          · rw [hx] at c0
            obtain ⟨e1, f1⟩ := oi_cell hown hlt2
            have hst := rcT_step hinv (by omega) hlt2 hx
            have Hst := Lib.hid hst
            have hi2 := rc_step hinv (by omega) hlt2 hx
            clear hst hcs
            by_cases hp : p = 0
            · have hz : nxt c p L = c := by unfold nxt; rw [if_pos hp, hinv.zero hp]
              rw [hz] at hi2
              have Hst2 : Hid ((rcT l L s).set s (c : Int) = rcT l L (s + 1)) := Lib.hid (by have := Hst.out; rw [hz] at this; exact this)
              subst hp
              go_wp2
              go_roundw
              case rel => exact ⟨c, L, s + 1, rfl, rfl, by go_num, by omega, hi2, by rw [← Hst2.out]; exact oi_put hown hlt2 _, hbel.setCell (Nat.le_refl _) _⟩
              case measure => simp [intOf]; omega
            · have hz : nxt c p L = (c + 1) * 2 ^ (L - p) := by unfold nxt; rw [if_neg hp]
              have Hz := Lib.hid hz
              have hp' : 0 < p := by omega
              clear hz hp
              go_wp2
              go_ways
              have e5 : wrap64 (((c : Int) + 1) * 2 ^ (L - p)) = ((nxt c p L : Nat) : Int) := by
                rw [wrap64_id, Hz.out]
                · simp
                all_goals
                  have e6 : ((c : Int) + 1) * 2 ^ (L - p) = ((nxt c p L : Nat) : Int) := by rw [Hz.out]; simp
                  rw [e6]; omega
              rw [e5]
              exact ⟨⟨nxt c p L, L, s + 1, rfl, rfl, by go_num, by omega, hi2, by rw [← Hst.out]; exact oi_put hown hlt2 _, hbel.setCell (Nat.le_refl _) _⟩, by simp [intOf]; omega⟩
          · have hne : ((atN l s : Nat) : Int) ≠ (L : Int) := by omega
            have hi2 := rc_same hinv hlt2 hx
            have hr2 := rcT_same hx
            have Hr2 := Lib.hid hr2
            clear hr2 hx hcs
            generalize atN l s = x at *
            go_wp2
            go_roundw
            case rel => exact ⟨c, p, s + 1, rfl, rfl, by go_num, by omega, hi2, by rw [Hr2.out]; exact hown, hbel⟩
            case measure => simp [intOf]; omega
        · have hil : s = l.length := by omega
          subst hil
          rw [rcT_next] at hown
          go_wp2
          go_roundw
          case rel => exact ⟨c, p, L + 1, rfl, rfl, by go_num, by omega, by omega, rc_next hinv (by omega) (by omega), hown, hbel⟩
          case measure => simp [intOf]; omega
    · have hil : L = 16 := by omega
      subst hil
      rw [← rmT_start h15] at hown
      rw [show ((16 : Nat) : Int) = 16 from rfl]
      go_wp2
      go_loopw [11] (fun u wr => ∃ i : Nat, u = .int .i64 i ∧ i ≤ l.length ∧ OI wr w.heap.size (some ⟨w.heap.size, 0, none⟩) l.length l.length (rmT l i) ∧ Below w.heap.size w wr)
        (fun u _ => l.length - (intOf u).toNat)
      case atStart => exact ⟨0, rfl, by omega, hown, hbel⟩
      case round =>
        clear hown hbel
        obtain ⟨i, rfl, hi, hown, hbel⟩ := hrel
        by_cases hlt2 : i < l.length
        · have c0 := cell_below (hcs i hlt2) hbel
          have d2 : decide ((i : Int) < l.length) = true := by simp; omega
          by_cases hx : atN l i = 0
          · rw [hx] at c0
            obtain ⟨e1, f1⟩ := oi_cell hown hlt2
            have Hst := Lib.hid (rmT_step hlt2 hx)
            clear hcs
            go_wp2
            go_roundw
            case rel => exact ⟨i + 1, by go_num, by omega, by rw [← Hst.out]; exact oi_put hown hlt2 _, hbel.setCell (Nat.le_refl _) _⟩
            case measure => simp [intOf]; omega
          · have hne : ((atN l i : Nat) : Int) ≠ 0 := by omega
            have Hr2 := Lib.hid (rmT_same hx)
            clear hx hcs
            generalize atN l i = x at *
            go_wp2
            go_roundw
            case rel => exact ⟨i + 1, by go_num, by omega, by rw [Hr2.out]; exact hown, hbel⟩
            case measure => simp [intOf]; omega
        · have hil : i = l.length := by omega
          subst hil
          rw [rmT_all] at hown
          have hcl2 : (codesP l).length = l.length := by simp [codesP]
          go_wp2
          go_ret2
          exact ⟨some ⟨w.heap.size, 0, none⟩, l.length, by rw [hcl2]; rfl, by rw [hcl2]; exact hown, hbel⟩
end Go.Proofs.Ytpfalaghggjbjaa
