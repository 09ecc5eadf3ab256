/-
  The walk of sluicegateref05.Pieces: it answers the pieces of its bytes, in memory of its own.
  Conditions: the slice reads as a list of bytes, shorter than 2^40.
-/
import Derived.Test.YtpfalaghggjbjaaWA
namespace Go.Proofs.Ytpfalaghggjbjaa
open Go.RowKit

/-- 'It hands back pieces in memory of its own; of what was there nothing has turned.' -/
def RetP (w : World) (ps : List Piece) (e : Ending) (w' : World) : Prop :=
  ∃ a n c, e = .returned (.slice a n c) ∧ OP w' w.heap.size a n c ps ∧ Below w.heap.size w w'

set_option maxRecDepth 100000 in
set_option maxHeartbeats 1000000 in
theorem refPieces_any (a : Option Addr) (N cap : Nat) (l : List UInt8) (w : World) (hl : l.length ≤ 1099511627776) (h : RB w a N cap l) :
    Calls Try.prog 20 #[.slice a N cap] w (RetP w (pieces l)) := by
  obtain rfl := RB.len h
  have hb := best_inv l
  go_enter Try.func20, Try.ntmps20
  go_wp2
  go_loopw [3, 4] (fun v p wr => ∃ (q g n c : Nat) (b : Option Addr) (ps : List Piece), v = .slice b n c ∧ p = .int .i64 q ∧ q ≤ l.length ∧ n ≤ q ∧ OP wr w.heap.size b n c ps ∧ l.length - q ≤ g ∧ ps ++ piecesF l g q = pieces l ∧ Below w.heap.size w wr)
    (fun _ p _ => l.length - (intOf p).toNat)
  case atStart => exact ⟨0, l.length, 0, 0, none, [], rfl, rfl, by omega, by omega, World.ownsRow_nil _ _ _ _, by omega, rfl, Below.refl _ _⟩
  case round =>
    obtain ⟨q, g, n, c, b, ps, rfl, rfl, hq, hn, hown, hg, hps, hbel⟩ := hrel
    have Hps := Lib.hid hps
    have hsz := hbel.size
    clear hps
    by_cases hlt : q < l.length
    · obtain ⟨b1, b2, b3, b4, b5⟩ := best_inv l q (by omega)
      have hr : RB wr a l.length cap l := rd_below0 h hbel
      obtain ⟨bb, off, hidx, hc⟩ := Rd.open hr 22 5 Try.underlying22 (by kernel_rfl)
      have hcq : wr.cell? ⟨bb, off + q, none⟩ = some (.int .u8 (at8 l q)) := by rw [hc q (by simpa using hlt), cB_get]
      clear hc
      have hss : scan l q (q + 1 - 1) 1 (0, 0) = best l q := rfl
      have Hss := Lib.hid hss
      clear hss
      go_wp2
      go_loopw [5, 6, 7] (fun u v x wx => ∃ (s : Nat × Nat) (k : Nat), u = .int .i64 s.1 ∧ v = .int .i64 s.2 ∧ x = .int .i64 k ∧ 1 ≤ k ∧ k ≤ q + 1 ∧ s.1 ≤ 258 ∧ scan l q (q + 1 - k) k s = best l q ∧ ∃ m, wx = wr.drewN m)
        (fun _ _ x _ => q + 1 - (intOf x).toNat)
      case atStart => exact ⟨(0, 0), 1, rfl, rfl, rfl, by omega, by omega, by simp, Hss.out, 0, rfl⟩
      case round =>
        obtain ⟨⟨s1, s2⟩, k, rfl, rfl, rfl, hk1, hk2, hs1, hs, m, rfl⟩ := hrel
        have Hs := Lib.hid hs
        clear hs
        simp only at hs1
        by_cases hc1 : k ≤ q ∧ k ≤ 32768 ∧ s1 < 258
        · obtain ⟨hc1, hc2, hc3⟩ := hc1
          go_wp2_with (go_at_call 53; refine (longest_any a l.length cap l (q - k) q k _ (by omega) ?_ (by omega) (by omega)).mono ?_; rotate_left; rintro e w' ⟨rfl, m2, rfl⟩)
          · have hlt2 : s1 < longest l (q - k) q := by assumption
            have h258 := longest_le l (q - k) q
            have hfit := longest_fits l (q - k) q (by omega)
            go_roundw
            case rel =>
              refine ⟨(longest l (q - k) q, k), k + 1, rfl, rfl, by go_num, by omega, by omega, h258, ?_, _, rfl⟩
              have := scan_yes (l := l) (p := q) (back := k) (s := (s1, s2)) hc1 hc2 hc3
              rw [if_pos hlt2] at this
              rw [← this]; exact Hs.out
            case measure => simp [intOf]; omega
          · have hlt2 : ¬ s1 < longest l (q - k) q := by assumption
            go_roundw
            case rel =>
              refine ⟨(s1, s2), k + 1, rfl, rfl, by go_num, by omega, by omega, hs1, ?_, _, rfl⟩
              have := scan_yes (l := l) (p := q) (back := k) (s := (s1, s2)) hc1 hc2 hc3
              rw [if_neg hlt2] at this
              rw [← this]; exact Hs.out
            case measure => simp [intOf]; omega
          · exact hr.drewN _
        · have hs' : (s1, s2) = best l q := by rw [← Hs.out]; exact (scan_no hc1).symm
          have e1 : (best l q).1 = s1 := by rw [← hs']
          have e2 : (best l q).2 = s2 := by rw [← hs']
          have He1 := Lib.hid e1
          have He2 := Lib.hid e2
          rw [e1] at b1 b2 b5
          rw [e2] at b3 b4 b5
          clear e1 e2 hs'
          have hown' : OP (wr.drewN m) w.heap.size b n c ps := hown
          have hcases : q < k ∨ (k ≤ q ∧ 32768 < k) ∨ (k ≤ q ∧ k ≤ 32768 ∧ 258 ≤ s1) := by omega
          clear hc1
          by_cases hc : 3 ≤ s1
          · rcases hcases with hk | ⟨hk, hk'⟩ | ⟨hk, hk', hk''⟩
            all_goals
              go_wp2_with (at_builtin; refine wpList_appP rfl _ _ rfl w.heap.size b n c ps rfl (hown'.alloc _) _ 1 1 [⟨s1, s2, 0⟩] rfl (rp_new _ _ _ _ _ _ 0 rfl rfl) (by omega) (by simp; omega) ?_; intro a' c' w1 hown1 hgrew)
              have hb1 : Below w.heap.size w w1 := below_grew ((below_drewN hbel m).alloc (by simp; omega) _) hgrew (by simp; omega) fun g hg => (hown'.blk g hg).1
              obtain ⟨g', hg', hpf⟩ := piecesF_copy hlt hg (by rw [He1.out]; exact hc)
              rw [He1.out] at hg' hpf
              rw [He2.out] at hpf
              go_roundw
              case rel => exact ⟨q + s1, g', n + 1, c', a', ps ++ [⟨s1, s2, 0⟩], rfl, by go_num, by omega, by omega, hown1, hg', by rw [← Hps.out, hpf]; simp, hb1⟩
              case measure => simp [intOf]; omega
          · replace hcases : q < k ∨ (k ≤ q ∧ 32768 < k) := by omega
            rcases hcases with hk | ⟨hk, hk'⟩
            all_goals
              go_wp2_with (at_builtin; refine wpList_appP rfl _ _ rfl w.heap.size b n c ps rfl (hown'.alloc _) _ 1 1 [⟨0, 0, l.getD q 0⟩] rfl (rp_new _ _ _ _ _ _ (l.getD q 0) rfl rfl) (by omega) (by simp; omega) ?_; intro a' c' w1 hown1 hgrew)
              have hb1 : Below w.heap.size w w1 := below_grew ((below_drewN hbel m).alloc (by simp; omega) _) hgrew (by simp; omega) fun g hg => (hown'.blk g hg).1
              obtain ⟨g', hg', hpf⟩ := piecesF_byte hlt hg (by rw [He1.out]; exact hc)
              go_roundw
              case rel => exact ⟨q + 1, g', n + 1, c', a', ps ++ [⟨0, 0, l.getD q 0⟩], rfl, by go_num, by omega, by omega, hown1, hg', by rw [← Hps.out, hpf]; simp, hb1⟩
              case measure => simp [intOf]; omega
    · go_wp2
      go_ret
      exact ⟨b, n, c, rfl, by rw [← Hps.out, piecesF_end hlt, List.append_nil]; exact hown, hbel⟩
end Go.Proofs.Ytpfalaghggjbjaa
