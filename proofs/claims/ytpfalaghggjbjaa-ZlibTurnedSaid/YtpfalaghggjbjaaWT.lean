/-
  The walks of sluicegatekit.Own, sluicegatekit.Kept.
  Conditions: the slice reads as a list of bytes, no longer than 2^30.
-/
import Derived.Test.YtpfalaghggjbjaaSl
import Derived.Test.YtpfalaghggjbjaaWA
namespace Go.Proofs.Ytpfalaghggjbjaa
open Go.RowKit

/-- The eight marks behind the bytes. -/
def marks : List UInt8 := List.replicate 8 165
/-- 'It hands back the bytes in memory of its own, marks behind them.' -/
def OwnPost (w : World) (l : List UInt8) (e : Ending) (w' : World) : Prop :=
  ∃ g c, e = .returned (.slice (some ⟨g, 0, none⟩) l.length c) ∧ w.heap.size ≤ g ∧ g < w'.heap.size ∧ RB w' (some ⟨g, 0, none⟩) (l.length + 8) c (l ++ marks) ∧ Below w.heap.size w w'

set_option maxRecDepth 100000 in
set_option maxHeartbeats 2000000 in
theorem own_any (a : Option Addr) (N cap : Nat) (l : List UInt8) (w : World) (hl : l.length ≤ 1073741824) (h : RB w a N cap l) :
    Calls Try.prog 17 #[.slice a N cap] w (OwnPost w l) := by
  obtain rfl := RB.len h
  go_enter Try.func17, Try.ntmps17
  go_wp2_with (first
    | (at_make; go_must (refine wpList_makeB0 rfl _ _ rfl w.heap.size (l.length + 8) _ rfl rfl (by omega) (by omega) (Nat.le_refl _) ?_); intro w1 hown1 hm1
       have hb1 : Below w.heap.size w w1 := hm1.below (Nat.le_refl _) (fun _ _ h => h.elim)
       have hz1 := hb1.size)
    | (at_builtin; have _t := hgrew2; go_must (refine wpList_appB rfl _ _ rfl w.heap.size a2 l.length c2 l rfl (hown2.alloc _) _ 8 8 marks rfl (rb_news rfl rfl rfl (by omega)) (by omega) (by simp; omega) ?_); intro a3 c3 w3 hown3 hgrew3)
    | (at_builtin; have _t := hz1; go_must (refine wpList_appB rfl _ _ rfl w.heap.size _ 0 (l.length + 8) [] rfl hown1 a l.length cap l rfl (rd_below0 h hb1) (by omega) (by omega) ?_); intro a2 c2 w2 hown2 hgrew2
       rw [Nat.zero_add, List.nil_append] at hown2
       have hb2 := below_grew hb1 hgrew2 (by omega) (fun g hg => (hown1.blk g hg).1)
       have hz2 := hb2.size)
    | (refine wpList_slH rfl _ _ rfl a3 (l.length + 8) c3 l.length .i64 _ rfl rfl rfl (by have := hown3.rb.le; omega) ?_))
  go_ret
  have hb3 := below_grew (hb2.alloc hz2 _) hgrew3 (by simp; omega) (fun g hg => (hown2.blk g hg).1)
  have hle := hown3.rb.le
  rcases hown3.2 with ⟨hv, h0⟩ | ⟨g, cap', cur, hv, hbg, hg, -⟩
  · simp at h0
  · simp only [Value.slice.injEq] at hv
    obtain ⟨rfl, -, rfl⟩ := hv
    refine ⟨g, c3, ?_, hbg, (Array.getElem?_eq_some_iff.1 hg).1, hown3.rb, hb3⟩
    have : adv (some ⟨g, 0, none⟩) c3 0 = some ⟨g, 0, none⟩ := by unfold adv; rw [if_neg (by omega)]; simp [Addr.add_lit]
    show Ending.returned (.slice (adv (some ⟨g, 0, none⟩) c3 0) l.length c3) = _
    rw [this]

set_option maxRecDepth 100000 in
set_option maxHeartbeats 2000000 in
theorem kept_any (g c cap : Nat) (b : Option Addr) (l : List UInt8) (w : World) (hl : l.length ≤ 1073741824) (h : RB w (some ⟨g, 0, none⟩) (l.length + 8) c (l ++ marks)) (h' : RB w b l.length cap l) :
    Calls Try.prog 26 #[.slice (some ⟨g, 0, none⟩) l.length c, .slice b l.length cap] w fun e w' => e = .returned (.bool true) ∧ ∃ k, w' = w.drewN k := by
  have hle := h.le
  have h0 : adv (some ⟨g, 0, none⟩) c 0 = some ⟨g, 0, none⟩ := by unfold adv; rw [if_neg (by omega)]; simp [Addr.add_lit]
  have hr := rb_h h (hi := l.length) (by omega)
  rw [h0, List.take_left] at hr
  have hm := rb_l h (lo := l.length) (by omega)
  rw [List.drop_left, show l.length + 8 - l.length = 8 by omega] at hm
  have hd : decide (l = l) = true := by simp
  obtain ⟨b1, o1, i1, k1⟩ := Rd.open hm 22 5 Try.underlying22 (by kernel_rfl)
  have hk : ∀ j, j < 8 → w.cell? ⟨b1, o1 + j, none⟩ = some (.int .u8 165) := fun j hj => by
    rw [k1 j (by simpa [marks] using hj), cB_get]
    unfold at8
    have : ∀ j, j < 8 → marks.getD j 0 = 165 := by decide
    rw [this j hj]; rfl
  clear k1
  have e1 : decide ((c : Int) < l.length + 8) = false := by simp; omega
  go_enter Try.func26, Try.ntmps26
  go_wp2_with (first
    | (go_at_call 21; go_must (refine (sameBytes_any _ _ _ _ _ _ l l w hr h').mono ?_); rintro e w1 ⟨rfl, rfl⟩)
    | (refine wpList_slH rfl _ _ rfl (some ⟨g, 0, none⟩) l.length c (l.length + 8) .i64 _ rfl rfl rfl (by omega) ?_; rw [h0])
    | (refine wpList_slL rfl _ _ rfl (some ⟨g, 0, none⟩) (l.length + 8) c l.length .i64 _ rfl rfl rfl (by omega) ?_; rw [show l.length + 8 - l.length = 8 by omega]))
  go_loop [6] (fun u => ∃ i : Nat, u = .int .i64 i ∧ i ≤ 8) (fun u => 8 - (intOf u).toNat)
  case atStart => exact ⟨0, rfl, by omega⟩
  case round =>
    obtain ⟨i, rfl, hi⟩ := hrel
    by_cases hlt : i < 8
    · have c0 := hk i hlt
      go_wp2
      go_round
      case rel => exact ⟨i + 1, by go_num, by omega⟩
      case measure => simp [intOf]; omega
    · have hil : i = 8 := by omega
      subst hil
      go_wp2
      go_ret
      exact ⟨rfl, 0, rfl⟩
end Go.Proofs.Ytpfalaghggjbjaa
