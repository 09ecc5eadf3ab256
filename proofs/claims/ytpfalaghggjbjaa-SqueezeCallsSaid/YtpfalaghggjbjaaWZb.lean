/-
  The walk of sluicegateref10.Squeeze.
  Conditions: the slice reads as a list of bytes, shorter than 2^24.
-/
import Derived.Test.YtpfalaghggjbjaaWZ
namespace Go.Proofs.Ytpfalaghggjbjaa
open Go.RowKit

theorem byte_of (x : Nat) : ((x : Int) % 256) = ((UInt8.ofNat x).toNat : Int) := by simp
theorem le3 (x : Nat) : le x 3 = [UInt8.ofNat x, UInt8.ofNat (x / 256), UInt8.ofNat (x / 65536)] := by simp [le, List.range_succ]
theorem seven_cells (x y : Nat) (s : UInt8) (hx : x < 16777216) (hy : y < 16777216) :
    (#[Value.int .u8 ((x : Int) % 256), .int .u8 ((x : Int) / 256 % 256), .int .u8 ((x : Int) / 65536), .int .u8 (s.toNat : Int), .int .u8 ((y : Int) % 256), .int .u8 ((y : Int) / 256 % 256), .int .u8 ((y : Int) / 65536)] : Array Value).toList = cB (le x 3 ++ [s] ++ le y 3) := by
  rw [le3, le3]
  simp only [cB, List.map_cons, List.map_nil, List.cons_append, List.nil_append]
  congr
  all_goals (simp <;> omega)

set_option maxRecDepth 100000 in
set_option maxHeartbeats 2000000 in
theorem refSqueeze_any (a : Option Addr) (N cap : Nat) (l : List UInt8) (s : UInt8) (m thr : Int) (w : World) (hl : l.length ≤ 16777215) (h : RB w a N cap l) :
    Calls Try.prog 29 #[.slice a N cap, .int .u8 (s.toNat : Int), .int .i64 m, .int .i64 thr] w (RetSq w (squeezeP l s m thr)) := by
  obtain rfl := RB.len h
  unfold squeezeP
  by_cases hok : m < 1 ∨ 16777215 < m ∨ thr < 0 ∨ 16777215 < thr
  · rw [if_pos hok]
    rcases (show m < 1 ∨ (¬ m < 1 ∧ 16777215 < m) ∨ (¬ m < 1 ∧ ¬ 16777215 < m ∧ thr < 0) ∨ (¬ m < 1 ∧ ¬ 16777215 < m ∧ ¬ thr < 0 ∧ 16777215 < thr) by omega) with h1 | ⟨h1, h2⟩ | ⟨h1, h2, h3⟩ | ⟨h1, h2, h3, h4⟩
    all_goals
      clear hok
      go_enter Try.func29, Try.ntmps29
      go_wp2
      go_ret3
      exact ⟨none, 0, rfl, ob_nil _ _, Below.refl _ _⟩
  · rw [if_neg hok]
    have m1 : 1 ≤ m := by omega
    have m2 : m ≤ 16777215 := by omega
    have t1 : 0 ≤ thr := by omega
    have t2 : thr ≤ 16777215 := by omega
    obtain ⟨k, rfl⟩ : ∃ k : Nat, m = k := ⟨m.toNat, by omega⟩
    clear hok
    rw [Int.toNat_natCast]
    go_enter Try.func29, Try.ntmps29
    go_wp2
    go_loopw [1, 11, 12] (fun v y u wr => ∃ (j n f : Nat) (s' : UInt8) (b : Option Addr) (c : Nat) (o : List UInt8), u = .int .i64 j ∧ v = .int .u8 (s'.toNat : Int) ∧ y = .slice b n c ∧ j ≤ l.length ∧
        OB wr w.heap.size b n c o ∧ n ≤ 8 * j ∧ (l.drop j).length < f ∧ o ++ (sqF k thr f (l.drop j) s').1 = (sqF k thr (l.length + 1) l s).1 ∧ (sqF k thr f (l.drop j) s').2 = (sqF k thr (l.length + 1) l s).2 ∧ Below w.heap.size w wr)
      (fun _ _ u _ => l.length - (intOf u).toNat)
    case atStart => exact ⟨0, 0, l.length + 1, s, none, 0, [], rfl, rfl, rfl, by omega, ob_nil _ _, by omega, by simp, rfl, rfl, Below.refl _ _⟩
    case round =>
      obtain ⟨j, n, f, s', b, c, o, rfl, rfl, rfl, hj, ho, hn, hf, hr1, hr2, hb⟩ := hrel
      have HR1 := Lib.hid hr1
      have HR2 := Lib.hid hr2
      have hz := hb.size
      clear hr1 hr2
      by_cases hlt : j < l.length
      · obtain ⟨g, hg, hst⟩ := @sqF_step k f thr (l.drop j) s' (by simp; omega) (by omega) hf
        have Hg := Lib.hid hg
        have Hst := Lib.hid hst
        clear hg hst hf
        obtain ⟨n1, hn1⟩ : ∃ n1, n1 = min (l.length - j) k := ⟨_, rfl⟩
        have hmin : (if (l.length : Int) < (j : Int) + (k : Int) then (l.length : Int) else (j : Int) + (k : Int)) = ((j + n1 : Nat) : Int) := by split <;> omega
        have hn1a : j + n1 ≤ l.length := by omega
        have hn1b : 1 ≤ n1 := by omega
        have hn1c : n1 ≤ k := by omega
        obtain ⟨p, hp⟩ : ∃ p, p = (l.drop j).take k := ⟨_, rfl⟩
        have hpl : p.length = n1 := by rw [hp]; simp; omega
        have hpe : (l.drop j).take n1 = p := by
          rw [hp]
          by_cases e : n1 = k
          · rw [e]
          · rw [List.take_of_length_le (by simp; omega), List.take_of_length_le (by simp; omega)]
        have hrp : ∀ wx, Below w.heap.size w wx → RB wx (adv a cap j) n1 (cap - j) p := fun wx hx => by
          have := rb_lh (rd_below0 h hx) (lo := j) (hi := j + n1) (by omega) hn1a
          rw [Nat.add_sub_cancel_left, hpe] at this
          exact this
        have Hrp := Lib.hid hrp
        have Hn1 := Lib.hid hn1
        have Hmin := Lib.hid hmin
        have Hp := Lib.hid hp
        have Hpl := Lib.hid hpl
        have hcr : j + n1 ≤ cap := by have := h.le; omega
        clear hn1 hmin hp hpl hpe hrp
        obtain ⟨q, hq⟩ : ∃ q, q = sqPiece thr p := ⟨_, rfl⟩
        have hq1 : q.1.length ≤ n1 ∧ q.2 ≤ n1 := by rw [hq, ← Hpl.out]; exact sqPiece_le thr p
        have Hq := Lib.hid hq
        obtain ⟨hq1, hq2⟩ := hq1
        clear hq
        have hmin := Hmin.out
        go_upto_if 52 with (refine wpList_slLH rfl _ _ _ rfl a l.length cap j (j + n1) .i64 .i64 _ _ rfl rfl rfl rfl (by omega) (by omega) hcr ?_; rw [Nat.add_sub_cancel_left])
        go_cut [14, 15, 16] from 31 to 90 (fun u v _ wx => ∃ pa pc, u = .slice pa q.1.length pc ∧ v = .int .i64 (q.2 : Int) ∧ (∀ wy, Mod (fun i => w.heap.size ≤ i ∧ i < wr.heap.size) wx wy → RB wy pa q.1.length pc q.1) ∧ Below wr.heap.size wr wx)
        case first =>
          have hP := fun w' h => refPack_any (adv a cap j) n1 (cap - j) p w' (by have := Hpl.out; omega) h
          by_cases c1 : thr ≤ (n1 : Int)
          · have d1 : decide (thr ≤ (n1 : Int)) = true := by simpa using c1
            by_cases c2 : (packP p).length < n1
            · have e : q = (packP p, n1) := by rw [Hq.out]; unfold sqPiece; rw [Hpl.out, if_pos ⟨c1, c2⟩]
              clear Hq
              subst e
              generalize packP p = P at *
              go_wp2_with (go_at_call 41; go_must (refine (hP _ (Hrp.out wr hb)).mono ?_); rintro e w2 ⟨a2, c2, rfl, ho2, hb2⟩)
              go_meet
              exact ⟨a2, c2, rfl, rfl, fun wy hy => rd_mod ho2.rb hy (fun g hg hi => by have := (ho2.blk g hg).1; omega), hb2⟩
            · have e : q = (p, 0) := by rw [Hq.out]; unfold sqPiece; rw [Hpl.out, if_neg (fun h => c2 h.2)]
              have Hb := Lib.hid hb
              clear Hq
              subst e
              generalize packP p = P at *
              go_wp2_with (go_at_call 41; go_must (refine (hP _ (Hrp.out wr hb)).mono ?_); rintro e w2 ⟨a2, c2, rfl, ho2, hb2⟩)
              go_meet
              have e := Hpl.out
              rw [e]
              exact ⟨_, _, rfl, rfl, fun wy hy => Hrp.out wy ((hb.trans (hb2.mono hz)).trans (hy.below (Nat.le_trans hz hb2.size) (fun i _ hi => hi.1))), hb2⟩
          · have e : q = (p, 0) := by rw [Hq.out]; unfold sqPiece; rw [Hpl.out, if_neg (fun h => c1 h.1)]
            have d1 : decide (thr ≤ (n1 : Int)) = false := by simpa using c1
            clear Hq
            subst e
            go_wp2
            go_meet
            have e := Hpl.out
            rw [e]
            exact ⟨_, _, rfl, rfl, fun wy hy => Hrp.out wy (hb.trans (hy.below hz (fun i _ hi => hi.1))), Below.refl _ _⟩
        case rest =>
          obtain ⟨pa, pc, rfl, rfl, hrq, hbx⟩ := hcut
          have hz0 := hbx.size
          have hz0' : w.heap.size ≤ wc.heap.size := by omega
          have bx : Below w.heap.size w wc := hb.trans (hbx.mono hz)
          have Hrq := Lib.hid hrq
          have ho' : OB wc w.heap.size b n c o := own_mod ho (Mod.of_below hbx) (fun g hg hi => by have := (ho.blk g hg).2; omega)
          have hsv := seven_cells q.1.length q.2 s' (by omega) (by omega)
          have Hsv := Lib.hid hsv
          clear hrq hsv
          go_wp2_with (first
            | (at_builtin; have _t := hz4; go_must (refine wpList_appB rfl _ _ rfl w.heap.size a4 _ c4 _ rfl ho4 pa q.1.length pc q.1 rfl (Hrq.out w4 mx4) (by omega) (by omega) ?_); intro a6 c6 w6 ho6 hgrew6
               have bx6 := below_grew bx4 hgrew6 (by omega) (fun g hg => (own_blk ho4 g hg).1))
            | (at_builtin; go_must (refine wpList_appB rfl _ _ rfl w.heap.size b n c o rfl (OB.alloc ho' _) _ 7 7 _ rfl (rb_news rfl Hsv.out (by simp [le_length]) (by omega)) (by omega) (by simp; omega) ?_); intro a4 c4 w4 ho4 hgrew4
               have bx4 := below_grew (bx.alloc (by omega) _) hgrew4 (by simp; omega) (fun g hg => (own_blk ho g hg).1)
               have mx4 : Mod (fun i => w.heap.size ≤ i ∧ i < wr.heap.size) wc w4 := ((Mod.refl _ wc).alloc _).trans hgrew4.mod (fun _ _ hi => hi) (fun i _ hi => ho.blk i hi)
               have hz4 := bx4.size))
          have hdk : (l.drop j).drop k = l.drop (j + n1) := by
            have := Hn1.out
            rw [List.drop_drop]
            by_cases e : k ≤ l.length - j
            · congr 1; omega
            · rw [List.drop_eq_nil_of_le (by omega), List.drop_eq_nil_of_le (by omega)]
          have hst := Hst.out
          rw [hdk, ← Hp.out, ← Hq.out] at hst
          have hg := Hg.out
          rw [hdk] at hg
          refine ⟨⟨j + n1, _, g, s' + 1, a6, c6, _, by go_num, congrArg _ (u8_next s'), rfl, by omega, ho6, by omega, hg, ?_, ?_, bx6⟩, ?_⟩
          · rw [← HR1.out, hst]
            simp [frameOf]
          · rw [← HR2.out, hst]
          · simp [intOf]; omega
      · have hje : j = l.length := by omega
        subst hje
        have e := HR1.out
        rw [List.drop_length, sqF_end] at e
        have e2 := HR2.out
        rw [List.drop_length, sqF_end] at e2
        have E := Lib.hid e
        have E2 := Lib.hid e2
        clear e e2
        go_wp2
        go_ret3
        simp only [List.append_nil] at E E2
        obtain hn2 := ho.rb.len
        refine ⟨b, c, ?_, ?_, hb⟩
        · rw [← E.out, ← E2.out, ← hn2]; rfl
        · show OB wr w.heap.size b _ c _
          rw [← E.out, ← hn2]; exact ho
end Go.Proofs.Ytpfalaghggjbjaa
