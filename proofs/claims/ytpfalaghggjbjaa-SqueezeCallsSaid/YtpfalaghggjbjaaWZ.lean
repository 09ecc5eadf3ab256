/-
  The walks of squeeze.Squeeze and sluicegateref10.Squeeze.
  Conditions: the slice reads as a list of bytes, shorter than 2^24.
-/
import Derived.Test.YtpfalaghggjbjaaWY
namespace Go.Proofs.Ytpfalaghggjbjaa
open Go.RowKit

/-- What stands in a frame for a piece, and what it says of its length (0: as it was). -/
def sqPiece (thr : Int) (p : List UInt8) : List UInt8 × Nat := if thr ≤ (p.length : Int) ∧ (packP p).length < p.length then (packP p, p.length) else (p, 0)
def frameOf (s : UInt8) (q : List UInt8 × Nat) : List UInt8 := le q.1.length 3 ++ [s] ++ le q.2 3 ++ q.1
def sqF (m : Nat) (thr : Int) : Nat → List UInt8 → UInt8 → List UInt8 × UInt8
  | 0, _, s => ([], s)
  | f + 1, l, s => if l.length = 0 then ([], s) else (frameOf s (sqPiece thr (l.take m)) ++ (sqF m thr f (l.drop m) (s + 1)).1, (sqF m thr f (l.drop m) (s + 1)).2)
def squeezeP (l : List UInt8) (s : UInt8) (m thr : Int) : List UInt8 × UInt8 × Nat :=
  if m < 1 ∨ 16777215 < m ∨ thr < 0 ∨ 16777215 < thr then ([], 0, 2) else ((sqF m.toNat thr (l.length + 1) l s).1, (sqF m.toNat thr (l.length + 1) l s).2, 0)
/-- 'It hands back frames, the next number, an error.' -/
def RetSq (w : World) (r : List UInt8 × UInt8 × Nat) (e : Ending) (w' : World) : Prop :=
  ∃ a c, e = .returned (.tuple #[.slice a r.1.length c, .int .u8 (r.2.1.toNat : Int), .int .i64 (r.2.2 : Int)]) ∧ OB w' w.heap.size a r.1.length c r.1 ∧ Below w.heap.size w w'
theorem sqPiece_le (thr : Int) (p : List UInt8) : (sqPiece thr p).1.length ≤ p.length ∧ (sqPiece thr p).2 ≤ p.length := by
  unfold sqPiece
  split
  · rename_i h; exact ⟨by show (packP p).length ≤ _; omega, Nat.le_refl _⟩
  · exact ⟨Nat.le_refl _, Nat.zero_le _⟩
theorem sqF_step {m f : Nat} {thr : Int} {l : List UInt8} {s : UInt8} (h : 0 < l.length) (hm : 1 ≤ m) (hf : l.length < f) :
    ∃ g, (l.drop m).length < g ∧ sqF m thr f l s = (frameOf s (sqPiece thr (l.take m)) ++ (sqF m thr g (l.drop m) (s + 1)).1, (sqF m thr g (l.drop m) (s + 1)).2) := by
  cases f with
  | zero => omega
  | succ f => exact ⟨f, by simp; omega, by rw [sqF, if_neg (by omega)]⟩
theorem sqF_end {m f : Nat} {thr : Int} {s : UInt8} : sqF m thr f [] s = ([], s) := by cases f <;> rfl
theorem u8_next (s : UInt8) : ((s.toNat : Int) + 1) % 256 = ((s + 1).toNat : Int) := by
  have := s.toNat_lt
  rw [UInt8.toNat_add]
  simp

theorem adv_zero (a : Option Addr) (cap : Nat) : adv a cap 0 = a := by
  unfold adv
  split
  · rfl
  · cases a <;> simp [Addr.add]

set_option maxRecDepth 100000 in
set_option maxHeartbeats 2000000 in
theorem squeeze_any (a : Option Addr) (N cap : Nat) (l : List UInt8) (s : UInt8) (m thr : Int) (w : World) (hl : l.length ≤ 16777215) (h : RB w a N cap l) :
    Calls Try.prog 28 #[.slice a N cap, .int .u8 (s.toNat : Int), .int .i64 m, .int .i64 thr] w (RetSq w (squeezeP l s m thr)) := by
  obtain rfl := RB.len h
  unfold squeezeP
  by_cases hok : m < 1 ∨ 16777215 < m ∨ thr < 0 ∨ 16777215 < thr
  · rw [if_pos hok]
    rcases (show m < 1 ∨ (¬ m < 1 ∧ 16777215 < m) ∨ (¬ m < 1 ∧ ¬ 16777215 < m ∧ thr < 0) ∨ (¬ m < 1 ∧ ¬ 16777215 < m ∧ ¬ thr < 0 ∧ 16777215 < thr) by omega) with h1 | ⟨h1, h2⟩ | ⟨h1, h2, h3⟩ | ⟨h1, h2, h3, h4⟩
    all_goals
      clear hok
      go_enter Try.func28, Try.ntmps28
      go_wp2
      go_ret3
      exact ⟨none, 0, rfl, ob_nil _ _, Below.refl _ _⟩
  · rw [if_neg hok]
    have m1 : 1 ≤ m := by omega
    have m2 : m ≤ 16777215 := by omega
    have t1 : 0 ≤ thr := by omega
    have t2 : thr ≤ 16777215 := by omega
    obtain ⟨k, rfl⟩ : ∃ k : Nat, m = k := ⟨m.toNat, by omega⟩
    clear hok
    rw [Int.toNat_natCast]
    go_enter Try.func28, Try.ntmps28
    go_wp2_with (at_make; go_must (refine wpList_makeB0 rfl _ _ rfl w.heap.size (l.length + 7) _ rfl rfl (by omega) (by omega) (Nat.le_refl _) ?_); intro w1 hown1 hm1
                 have hb1 : Below w.heap.size w w1 := hm1.below (Nat.le_refl _) (fun _ _ h => h.elim))
    go_loopw [0, 1, 11] (fun u v y wr => ∃ (j n f : Nat) (s' : UInt8) (ar b : Option Addr) (cr c : Nat) (o : List UInt8), u = .slice ar (l.length - j) cr ∧ v = .int .u8 (s'.toNat : Int) ∧ y = .slice b n c ∧ j ≤ l.length ∧
        (∀ wx, Below w.heap.size w wx → RB wx ar (l.length - j) cr (l.drop j)) ∧ OB wr w.heap.size b n c o ∧ n ≤ 8 * j ∧ (l.drop j).length < f ∧ o ++ (sqF k thr f (l.drop j) s').1 = (sqF k thr (l.length + 1) l s).1 ∧ (sqF k thr f (l.drop j) s').2 = (sqF k thr (l.length + 1) l s).2 ∧ Below w.heap.size w wr)
      (fun u _ _ _ => match u with | .slice _ n _ => n | _ => 0)
    case atStart => exact ⟨0, 0, l.length + 1, s, a, _, cap, _, [], rfl, rfl, rfl, by omega, fun wx hx => rd_below0 h hx, hown1, by omega, by simp, rfl, rfl, hb1⟩
    case round =>
      obtain ⟨j, n, f, s', ar, b, cr, c, o, rfl, rfl, rfl, hj, hrd, ho, hn, hf, hr1, hr2, hb⟩ := hrel
      have HR1 := Lib.hid hr1
      have HR2 := Lib.hid hr2
      have Hrd := Lib.hid hrd
      have hz := hb.size
      clear hr1 hr2 hrd
      by_cases hlt : j < l.length
      · obtain ⟨g, hg, hst⟩ := @sqF_step k f thr (l.drop j) s' (by simp; omega) (by omega) hf
        have Hg := Lib.hid hg
        have Hst := Lib.hid hst
        clear hg hst hf
        obtain ⟨n1, hn1⟩ : ∃ n1, n1 = min (l.length - j) k := ⟨_, rfl⟩
        have hmin : (if k < l.length - j then (k : Int) else ((l.length - j : Nat) : Int)) = (n1 : Int) := by split <;> omega
        have hn1a : n1 ≤ l.length - j := by omega
        have hn1b : 1 ≤ n1 := by omega
        have hn1c : n1 ≤ k := by omega
        obtain ⟨p, hp⟩ : ∃ p, p = (l.drop j).take k := ⟨_, rfl⟩
        have hpl : p.length = n1 := by rw [hp]; simp; omega
        have hpe : (l.drop j).take n1 = p := by
          rw [hp]
          by_cases e : n1 = k
          · rw [e]
          · rw [List.take_of_length_le (by simp; omega), List.take_of_length_le (by simp; omega)]
        have hrp : ∀ wx, Below w.heap.size w wx → RB wx ar n1 cr p := fun wx hx => by rw [← hpe, ← adv_zero ar cr]; exact rb_h (Hrd.out wx hx) hn1a
        have Hrp := Lib.hid hrp
        have Hn1 := Lib.hid hn1
        have Hmin := Lib.hid hmin
        have Hp := Lib.hid hp
        have Hpl := Lib.hid hpl
        have hcr : n1 ≤ cr := by have := (Hrd.out wr hb).le; omega
        clear hn1 hmin hp hpl hpe hrp
        obtain ⟨q, hq⟩ : ∃ q, q = sqPiece thr p := ⟨_, rfl⟩
        have hq1 : q.1.length ≤ n1 ∧ q.2 ≤ n1 := by rw [hq, ← Hpl.out]; exact sqPiece_le thr p
        have Hq := Lib.hid hq
        obtain ⟨hq1, hq2⟩ := hq1
        clear hq
        have hmin := Hmin.out
        go_upto_if 46 with (refine wpList_slH rfl _ _ rfl ar (l.length - j) cr n1 .i64 _ rfl rfl rfl hcr ?_; rw [adv_zero])
        go_cut [13, 14, 15] from 34 to 81 (fun u v _ wx => ∃ pa pc, u = .slice pa q.1.length pc ∧ v = .int .i64 (q.2 : Int) ∧ (∀ wy, Below wx.heap.size wx wy → RB wy pa q.1.length pc q.1) ∧ Below wr.heap.size wr wx)
        case first =>
          have hP := fun w' h => pack_any ar n1 cr p w' (by have := Hpl.out; omega) h
          by_cases c1 : thr ≤ (n1 : Int)
          · by_cases c2 : (packP p).length < n1
            · have e : q = (packP p, n1) := by rw [Hq.out]; unfold sqPiece; rw [Hpl.out, if_pos ⟨c1, c2⟩]
              clear Hq
              subst e
              generalize packP p = P at *
              go_wp2_with (go_at_call 40; go_must (refine (hP _ (Hrp.out wr hb)).mono ?_); rintro e w2 ⟨a2, c2, rfl, ho2, hb2⟩)
              go_meet
              exact ⟨a2, c2, rfl, rfl, fun wy hy => rd_below ho2.rb hy (fun g hg => (ho2.blk g hg).2), hb2⟩
            · have e : q = (p, 0) := by rw [Hq.out]; unfold sqPiece; rw [Hpl.out, if_neg (fun h => c2 h.2)]
              have Hb := Lib.hid hb
              clear Hq
              subst e
              generalize packP p = P at *
              go_wp2_with (go_at_call 40; go_must (refine (hP _ (Hrp.out wr hb)).mono ?_); rintro e w2 ⟨a2, c2, rfl, ho2, hb2⟩)
              go_meet
              have e := Hpl.out
              rw [e]
              exact ⟨_, _, rfl, rfl, fun wy hy => Hrp.out wy ((hb.trans (hb2.mono hz)).trans (hy.mono (Nat.le_trans hz hb2.size))), hb2⟩
          · have e : q = (p, 0) := by rw [Hq.out]; unfold sqPiece; rw [Hpl.out, if_neg (fun h => c1 h.1)]
            clear Hq
            subst e
            go_wp2
            go_meet
            have e := Hpl.out
            rw [e]
            exact ⟨_, _, rfl, rfl, fun wy hy => Hrp.out wy (hb.trans (hy.mono hz)), Below.refl _ _⟩
        case rest =>
          obtain ⟨pa, pc, rfl, rfl, hrq, hbx⟩ := hcut
          have hz0 := hbx.size
          have hz0' : w.heap.size ≤ wc.heap.size := by omega
          have hoL : o.length = n := ho.rb.len.symm
          have HoL := Lib.hid hoL
          have hoL1 : o.length ≤ 8 * j := by omega
          have hA := fun w' h => appendFixed_any q.1.length b n c o w' (by omega) (by omega) h
          have hA2 := fun w' a n c l => appendFixed_any q.2 a n c l w' (by omega)
          have hro := rd_below ho.rb hbx (fun g hg => (ho.blk g hg).2)
          have bx : Below w.heap.size w wc := hb.trans (hbx.mono hz)
          have Hrq := Lib.hid hrq
          clear hoL hrq
          have Hbx := Lib.hid bx
          clear bx
          go_wp2_with (first
            | (go_at_call 56; first
                | (have _t := hz4; go_must (refine (hA2 w4 a4 _ c4 _ (by simp [le_length]; omega) ho4.rb).mono ?_); rintro e w5 ⟨a5, m5, c5, rfl, ho5, hb5⟩
                   have hm5 : m5 ≤ 8 * j + 7 := by have := ho5.rb.len; simp [le_length] at this; omega
                   have bx5 : Below wc.heap.size wc w5 := bx4.trans (hb5.mono (by omega))
                   have hz5 := bx5.size
                   have ho5 := own_mono ho5 (show wc.heap.size ≤ w4.heap.size by omega))
                | (go_must (refine (hA wc hro).mono ?_); rintro e w3 ⟨a3, m3, c3, rfl, ho3, hb3⟩
                   have hm3 : m3 ≤ 8 * j + 3 := by have := ho3.rb.len; simp [le_length] at this; omega
                   have hz3 := hb3.size))
            | (at_builtin; have _t := hz5; go_must (refine wpList_appB rfl _ _ rfl wc.heap.size a5 m5 c5 _ rfl ho5 pa q.1.length pc q.1 rfl (Hrq.out w5 bx5) (by omega) (by omega) ?_); intro a6 c6 w6 ho6 hgrew6
               have bx6 := below_grew bx5 hgrew6 (by omega) (fun g hg => (own_blk ho5 g hg).1))
            | (at_builtin; go_must (refine wpList_appB rfl _ _ rfl wc.heap.size a3 m3 c3 _ rfl (OB.alloc ho3 _) _ 1 1 [s'] rfl (rb_new _ _ _ _ _ rfl rfl) (by omega) (by simp; omega) ?_); intro a4 c4 w4 ho4 hgrew4
               have bx4 := below_grew (hb3.alloc (by omega) _) hgrew4 (by simp; omega) (fun g hg => (own_blk ho3 g hg).1)
               have hz4 := bx4.size)
            | (refine wpList_slL rfl _ _ rfl ar (l.length - j) cr n1 .i64 _ rfl rfl rfl hn1a ?_))
          have hdk : (l.drop j).drop k = l.drop (j + n1) := by
            have := Hn1.out
            rw [List.drop_drop]
            by_cases e : k ≤ l.length - j
            · congr 1; omega
            · rw [List.drop_eq_nil_of_le (by omega), List.drop_eq_nil_of_le (by omega)]
          have hst := Hst.out
          rw [hdk, ← Hp.out, ← Hq.out] at hst
          have hg := Hg.out
          rw [hdk] at hg
          refine ⟨⟨j + n1, m5 + q.1.length, g, s' + 1, adv ar cr n1, a6, cr - n1, c6, _, by congr 1; omega, congrArg _ (u8_next s'), rfl, by omega, fun wx hx => ?_, own_mono ho6 hz0', by omega, hg, ?_, ?_, Hbx.out.trans (bx6.mono hz0')⟩, ?_⟩
          · have := rb_l (Hrd.out wx hx) hn1a
            rw [List.drop_drop] at this
            rw [show l.length - (j + n1) = l.length - j - n1 by omega]
            exact this
          · rw [← HR1.out, hst]
            simp [frameOf]
          · rw [← HR2.out, hst]
          · show l.length - j - n1 < l.length - j
            omega
      · have hje : j = l.length := by omega
        subst hje
        have e := HR1.out
        rw [List.drop_length, sqF_end] at e
        have e2 := HR2.out
        rw [List.drop_length, sqF_end] at e2
        have E := Lib.hid e
        have E2 := Lib.hid e2
        clear e e2
        go_wp2
        go_ret3
        simp only [List.append_nil] at E E2
        obtain hn2 := ho.rb.len
        refine ⟨b, c, ?_, ?_, hb⟩
        · rw [← E.out, ← E2.out, ← hn2]; rfl
        · show OB wr w.heap.size b _ c _
          rw [← E.out, ← hn2]; exact ho
end Go.Proofs.Ytpfalaghggjbjaa
