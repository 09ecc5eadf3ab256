/-
  The walk of the law DeflateGreedy.
  Conditions: the argument reads as a list of bytes.
-/
import Derived.Test.YtpfalaghggjbjaaWU
import Derived.Test.YtpfalaghggjbjaaPlG
namespace Go.Proofs.Ytpfalaghggjbjaa
open Go.RowKit

theorem greedy_tail {l : List UInt8} {p q n b x : Nat} {pl pd : Int} {pb : UInt8} (hc : (pl = 0 ∧ n = 1 ∧ pb = l.getD p 0 ∧ (best l p).1 < 3) ∨ (pl = n ∧ 3 ≤ n ∧ (best l p).1 = n ∧ pd = ((best l p).2 : Int)))
    (ht : longest l q p ≤ (best l p).1 ∧ (longest l q p = (best l p).1 → 0 < (best l p).1 → (best l p).2 ≤ b)) (hL : longest l q p = x) :
    decide (3 ≤ (x : Int)) = false ∨ (decide (3 ≤ (x : Int)) = true ∧ decide (pl < (x : Int)) = false ∧ (((x : Int) == pl) = false ∨ (((x : Int) == pl) = true ∧ decide ((b : Int) < pd) = false))) := by
  rw [hL] at ht
  by_cases h3 : 3 ≤ x
  · right
    rcases hc with ⟨_, _, _, h⟩ | ⟨h1, h2, h4, h5⟩
    · omega
    · refine ⟨by simp; omega, by simp; omega, ?_⟩
      by_cases he : x = n
      · right
        have := ht.2 (by omega) (by omega)
        exact ⟨by simp; omega, by simp; omega⟩
      · left; simp; omega
  · left; simp; omega

set_option maxRecDepth 100000 in
set_option maxHeartbeats 4000000 in
theorem deflateGreedy_any (a : Option Addr) (N cap : Nat) (l : List UInt8) (w : World) (h : RB w a N cap l) :
    Calls Try.prog 4 #[.slice a N cap] w (TruePost w) := by
  obtain rfl := RB.len h
  by_cases hlt : 300 < l.length
  · have d : decide ((300 : Int) < l.length) = true := by simp; omega
    go_enter Try.func4, Try.ntmps4
    go_wp2_with (go_at_call 16; go_must (refine (lives5_any _).mono ?_); rintro e w1 ⟨rfl, hb1⟩)
    go_ret
    exact ⟨rfl, hb1⟩
  · have d : decide ((300 : Int) < l.length) = false := by simp; omega
    have hl2 : l.length ≤ 1099511627776 := by omega
    have hpl := pieces_length l
    have hP := fun a N cap w => pieces_any a N cap l w hl2
    have hpc : pieces l = piecesF l l.length 0 := rfl
    have Hpc := Lib.hid hpc
    clear hpc
    generalize pieces l = ps at *
    go_enter Try.func4, Try.ntmps4
    go_wp2_with (first
      | (go_at_call 16; go_must (refine (lives5_any _).mono ?_); rintro e w1 ⟨rfl, hb1⟩)
      | (go_at_call 19; go_must (refine (hP _ _ _ w1 (rd_below0 h hb1)).mono ?_); rintro e w2 ⟨a2, n2, c2, rfl, ho2, hb2⟩))
    have hz1 := hb1.size
    have hb12 := hb1.trans (hb2.mono hz1)
    have hr := rd_below0 h hb12
    obtain rfl := ho2.rp.len
    obtain ⟨b1, o1, i1, k1'⟩ := Rd.open ho2.rp 26 31 Try.underlying26 (by kernel_rfl)
    have k1 := fun i hi => @rp_cells w2 b1 o1 ps k1' i hi
    obtain ⟨b2, o2, i2, k2'⟩ := Rd.open hr 22 5 Try.underlying22 (by kernel_rfl)
    have k2 : ∀ j, j < l.length → w2.cell? ⟨b2, o2 + j, none⟩ = some (.int .u8 (at8 l j)) := fun j hj => by rw [k2' j (by simpa using hj), cB_get]
    clear k1' k2' ho2 hP hr
    go_loopw [4, 5] (fun u v wr => ∃ (p i f k : Nat), u = .int .i64 p ∧ v = .int .i64 i ∧ i ≤ ps.length ∧ p ≤ l.length ∧ l.length - p ≤ f ∧ ps.drop i = piecesF l f p ∧ wr = w2.drewN k) (fun _ v _ => ps.length - (intOf v).toNat)
    case atStart => exact ⟨0, 0, l.length, 0, rfl, rfl, by omega, by omega, by omega, Hpc.out, rfl⟩
    case round =>
      obtain ⟨p, i, f, k, rfl, rfl, hi, hp, hf, hdrop, rfl⟩ := hrel
      have Hdrop := Lib.hid hdrop
      clear hdrop
      by_cases hip : i < ps.length
      · have hpl2 : p < l.length := by
          by_cases h : p < l.length
          · exact h
          · have := Hdrop.out
            rw [piecesF_end h] at this
            have := congrArg List.length this
            simp at this
            omega
        obtain ⟨c, n, g, e, hg, hpn, hn1, hn2, hc⟩ := piecesF_cons hpl2 hf
        have hd := drop_at hip
        rw [Hdrop.out, e] at hd
        obtain ⟨hd1, hd2⟩ := List.cons.inj hd
        have Hd2 := Lib.hid hd2
        obtain ⟨c0, c1, c2⟩ := k1 i hip
        rw [← hd1] at c0 c1 c2
        have htop := best_top l p (by omega)
        clear hd hd1 hd2 e k1
        obtain ⟨pl, pd, pb⟩ := c
        simp only at c0 c1 c2 hc
        have dp := k2 p hpl2
        have emax : (if pl < 1 then 1 else pl) = (n : Int) := by
          rcases hc with ⟨h1, h2, _⟩ | ⟨h1, h2, _⟩
          · rw [h1, h2]; rfl
          · rw [h1, if_neg (by omega)]
        have e1 : decide ((l.length : Int) < p + n) = false := by simp; omega
        have eb : ((pl == 0) = true ∧ pb.toNat = (l.getD p 0).toNat) ∨ (pl == 0) = false := by
          rcases hc with ⟨h1, _, h3, _⟩ | ⟨h1, h2, _⟩
          · left; exact ⟨by rw [h1]; rfl, by rw [h3]⟩
          · right; simp; omega
        go_upto_region 11 with fail
        go_cut [53] from 28 to 119 (fun u wx => u = .bool false ∧ ∃ m, wx = w2.drewN m)
        case first =>
          rcases eb with ⟨g1, g2⟩ | g1
          · have e2 : (((pb.toNat : Nat) : Int) != at8 l p) = false := by unfold at8; rw [g2]; simp
            clear g2
            go_quiet (fail)
            go_wp2
            go_meet
            exact ⟨rfl, k + nq, by rw [World.drewN_drewN]⟩
          · go_quiet (fail)
            go_wp2
            go_meet
            exact ⟨rfl, k + nq, by rw [World.drewN_drewN]⟩
        case rest =>
          obtain ⟨rfl, m, rfl⟩ := hcut
          clear eb emax e1 dp
          go_wp2
          go_loopw [7] (fun u wr => ∃ (b k' : Nat), u = .int .i64 b ∧ 1 ≤ b ∧ b ≤ p + 1 ∧ wr = w2.drewN k') (fun u _ => p + 1 - (intOf u).toNat)
          case atStart => exact ⟨1, m, rfl, by omega, by omega, rfl⟩
          case round =>
            obtain ⟨b, k', rfl, hb1', hb2', rfl⟩ := hrel
            by_cases hbp : b ≤ p
            · have d2 : decide ((b : Int) ≤ p) = true := by simp; omega
              obtain ⟨q, hq⟩ : ∃ q, q = p - b := ⟨_, rfl⟩
              have htb := htop b hb1' hbp
              rw [← hq] at htb
              have Hq := Lib.hid hq
              clear hq htop
              go_wp2
              go_loopw [8] (fun u wr => ∃ (x k'' : Nat), u = .int .i64 x ∧ x ≤ 258 ∧ shared l q p (258 - x) x = longest l q p ∧ wr = w2.drewN k'') (fun u _ => 258 - (intOf u).toNat)
              case atStart => exact ⟨0, k', rfl, by omega, rfl, rfl⟩
              case round =>
                obtain ⟨x, k'', rfl, hx, hsh, rfl⟩ := hrel
                have Hsh := Lib.hid hsh
                clear hsh
                have hqp : p = q + b := by have := Hq.out; omega
                have Hqp := Lib.hid hqp
                clear hqp
                by_cases hx8 : x = 258
                · have d3 : decide ((x : Int) < 258) = false := by simp; omega
                  have hL : longest l q p = x := by rw [← Hsh.out, shared_no (.inl hx8) hx]
                  have tail := greedy_tail (b := b) hc htb hL
                  have Hx8 := Lib.hid hx8
                  clear hL hx8 k2
                  rcases tail with t1 | ⟨t1, t2, t3 | ⟨t3, t4⟩⟩
                  all_goals
                    go_wp2
                    go_quiet (fail)
                    go_wp2
                    exact ⟨⟨b + 1, _, by go_num, by omega, by omega, rfl⟩, by simp [intOf]; omega⟩
                · have d3 : decide ((x : Int) < 258) = true := by simp; omega
                  have hx9 : x < 258 := by omega
                  by_cases hin : p + x < l.length
                  · have d4 : decide ((p : Int) + x < l.length) = true := by simp; omega
                    have dx := k2 (p + x) hin
                    have dy := k2 (q + x) (by have := Hqp.out; omega)
                    have ix : ((p : Int) + x).toNat = p + x := by omega
                    have iy : ((p : Int) + x - b).toNat = q + x := by have := Hqp.out; omega
                    by_cases heq : l.getD (q + x) 0 = l.getD (p + x) 0
                    · have d5 : (at8 l (p + x) == at8 l (q + x)) = true := by unfold at8; rw [heq]; simp
                      have hst : shared l q p (258 - (x + 1)) (x + 1) = longest l q p := by rw [← Hsh.out, shared_yes (by omega) hin heq]
                      have Hst := Lib.hid hst
                      clear hst heq k2 hx8
                      go_wp2
                      go_quiet (fail)
                      go_wp2
                      exact ⟨⟨x + 1, k'' + nq, by go_num, by omega, Hst.out, rfl⟩, by simp [intOf]; omega⟩
                    · have d5 : (at8 l (p + x) == at8 l (q + x)) = false := by
                        rw [Bool.eq_false_iff]
                        intro hh
                        exact heq ((at8_eq l (q + x) (p + x)).1 (by simpa using hh : at8 l (p + x) = at8 l (q + x)).symm)
                      have hL : longest l q p = x := by rw [← Hsh.out, shared_no (.inr fun h => heq h.2) hx]
                      have tail := greedy_tail (b := b) hc htb hL
                      clear hL heq k2 hx8
                      rcases tail with t1 | ⟨t1, t2, t3 | ⟨t3, t4⟩⟩
                      all_goals
                        go_wp2
                        go_quiet (fail)
                        go_wp2
                        exact ⟨⟨b + 1, _, by go_num, by omega, by omega, rfl⟩, by simp [intOf]; omega⟩
                  · have d4 : decide ((p : Int) + x < l.length) = false := by simp; omega
                    have hL : longest l q p = x := by rw [← Hsh.out, shared_no (.inr fun h => hin h.1) hx]
                    have tail := greedy_tail (b := b) hc htb hL
                    clear hL k2 hx8
                    rcases tail with t1 | ⟨t1, t2, t3 | ⟨t3, t4⟩⟩
                    all_goals
                      go_wp2
                      go_quiet (fail)
                      go_wp2
                      exact ⟨⟨b + 1, _, by go_num, by omega, by omega, rfl⟩, by simp [intOf]; omega⟩
            · have hbb : b = p + 1 := by omega
              subst hbb
              go_wp2
              exact ⟨⟨p + n, i + 1, g, k', by go_num, by go_num, by omega, hpn, hg, Hd2.out.symm, rfl⟩, by simp [intOf]; omega⟩
      · have hil : i = ps.length := by omega
        subst hil
        have hpe : p = l.length := by
          by_cases h : p < l.length
          · obtain ⟨c, n, g, e, _⟩ := piecesF_cons h hf
            have := Hdrop.out
            rw [e, List.drop_length] at this
            cases this
          · omega
        subst hpe
        go_wp2
        go_ret
        exact ⟨rfl, below_drewN hb12 k⟩
end Go.Proofs.Ytpfalaghggjbjaa
