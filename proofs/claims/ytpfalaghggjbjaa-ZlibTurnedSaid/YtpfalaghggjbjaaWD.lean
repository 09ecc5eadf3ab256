/-
  The walk of deflate.Pieces: it answers the pieces of its bytes, in memory of its own.
  Conditions: the slice reads as a list of bytes, shorter than 2^40.
-/
import Derived.Test.YtpfalaghggjbjaaWC
import Derived.Deep.CutRange
namespace Go.Proofs.Ytpfalaghggjbjaa
open Go.RowKit

theorem next_place {l : List UInt8} {q j : Nat} {np : List Nat} {s R : Nat × Nat} (hj : j < np.length) (h : R = pscan l q (np.take j).reverse s) :
    (∃ k : Nat, Value.int .i64 ((j : Int) - 1) = .int .i64 k ∧ k < np.length ∧ pscan l q (np.take (k + 1)).reverse s = R) ∨ (Value.int .i64 ((j : Int) - 1) = .int .i64 (-1) ∧ s = R) := by
  rcases Nat.eq_zero_or_pos j with h0 | h0
  · subst h0
    right
    exact ⟨by simp, by rw [h]; rfl⟩
  · left
    exact ⟨j - 1, by congr 1; omega, by omega, by rw [h, show j - 1 + 1 = j by omega]⟩

/-- What the loop keeps of its own blocks: the box of b, the map's variable, the map. -/
structure PK (w0 : World) (a : Option Addr) (cap : Nat) (l : List UInt8) (q : Nat) (wr : World) : Prop where
  below : Below w0.heap.size w0 wr
  size : w0.heap.size + 3 ≤ wr.heap.size
  box : wr.heap[w0.heap.size]? = some (.cells #[.slice a l.length cap] 22 (0, 0))
  var : wr.heap[w0.heap.size + 2]? = some (.cells #[.map (some (w0.heap.size + 1))] 74 (0, 0))
  grp : Grp wr (w0.heap.size + 3) (w0.heap.size + 1) (places l q)

theorem pk_start (w : World) (a : Option Addr) (cap : Nat) (l : List UInt8) :
    PK w a cap l 0 (((w.alloc (.cells #[.slice a l.length cap] 22)).alloc (.map #[] 0)).alloc (.cells #[.map (some (w.heap.size + 1))] 74)) := by
  have e1 : (w.alloc (.cells #[.slice a l.length cap] 22)).heap.size = w.heap.size + 1 := by simp
  have e2 : ((w.alloc (.cells #[.slice a l.length cap] 22)).alloc (.map #[] 0)).heap.size = w.heap.size + 2 := by simp
  refine ⟨((((Below.refl _ _).alloc (Nat.le_refl _) _).alloc (by simp) _).alloc (by simp; omega) _), by simp, ?_, ?_, ?_⟩
  · rw [Below.heap_alloc _ _ _ (by omega), Below.heap_alloc _ _ _ (by omega)]
    show (w.heap.push _)[w.heap.size]? = _
    simp
  · have := heap_alloc_new ((w.alloc (.cells #[.slice a l.length cap] 22)).alloc (.map #[] 0)) (.cells #[.map (some (w.heap.size + 1))] 74)
    rw [e2] at this
    exact this
  · have := grp_made (w.alloc (.cells #[.slice a l.length cap] 22)) (w.heap.size + 3)
    rw [e1] at this
    exact this.alloc _

theorem pk_note {w wx w' : World} {a : Option Addr} {cap q : Nat} {l : List UInt8} (h : PK w a cap l q wx) (hG : Grp w' (w.heap.size + 3) (w.heap.size + 1) (places l (q + 1))) (hm : Mod (Noted wx (w.heap.size + 3) (w.heap.size + 1)) wx w') : PK w a cap l (q + 1) w' := by
  have hs := h.size
  refine ⟨h.below.trans (hm.below (by omega) fun k _ hk => ?_), by have := hm.size; omega, ?_, ?_, hG⟩
  · rcases hk with rfl | ⟨hk, _⟩ <;> omega
  · rw [hm.block _ (by omega) (by rintro (h | ⟨h, _⟩) <;> omega)]; exact h.box
  · rw [hm.block _ (by omega) (by rintro (h | ⟨h, _⟩) <;> omega)]; exact h.var
theorem op_note {wx w' : World} {B M n c : Nat} {b : Option Addr} {ps : List Piece} (h : OP wx B b n c ps) (hM : M < B) (hm : Mod (Noted wx B M) wx w') : OP w' B b n c ps := by
  refine own_mod h hm fun g hg hN => ?_
  have := own_blk h g hg
  rcases hN with rfl | ⟨_, c', m, hc⟩
  · omega
  · rcases h.2 with ⟨hv, _⟩ | ⟨g', cap', cur, hv, _, hh, _⟩
    · simp only [Value.slice.injEq] at hv; rw [hv.1] at hg; cases hg
    · simp only [Value.slice.injEq] at hv; rw [hv.1] at hg; cases hg
      rw [hh] at hc; simp at hc
/-- Where only new memory, or blocks from the third of its own on, are written. -/
theorem pk_grew {w wx w' : World} {a b b' : Option Addr} {cap q : Nat} {l : List UInt8} {n c : Nat} {ps : List Piece} (h : PK w a cap l q wx) (hown : OP wx (w.heap.size + 3) b n c ps) (hg : Grew wx w' b b') : PK w a cap l q w' := by
  have hs := h.size
  have hm := hg.mod
  have hb := hown.blk
  refine ⟨below_grew h.below hg (by omega) (fun g hg => by have := hb g hg; omega), by have := hm.size; omega, ?_, ?_, ?_⟩
  · rw [hm.block _ (by omega) (fun e => by have := hb _ e; omega)]; exact h.box
  · rw [hm.block _ (by omega) (fun e => by have := hb _ e; omega)]; exact h.var
  · refine h.grp.mod hm (fun g c' m hc _ e => ?_) (fun e => by have := hb _ e; omega)
    rcases hown.2 with ⟨hv, _⟩ | ⟨g', cap', cur, hv, _, hh, _⟩
    · simp only [Value.slice.injEq] at hv; rw [hv.1] at e; cases e
    · simp only [Value.slice.injEq] at hv; rw [hv.1] at e; cases e
      rw [hh] at hc; simp at hc
theorem box_kept {wx w1 : World} {b b' : Option Addr} {C : Array Value} {T : Obj} {e : Nat} (hg : Grew ((wx.alloc (.cells C e)).alloc T) w1 b b') (hb : ∀ g, blk b = some g → g < wx.heap.size) {j : Nat} {v : Value} (hv : C[j]? = some v) :
    w1.cell? ⟨wx.heap.size, j, none⟩ = some v := by
  refine hg.mod.cell ?_ (fun e => Nat.lt_irrefl _ (hb _ e))
  rw [World.cell?_alloc_lt _ _ _ (by simp), World.cell?_alloc_new, hv]
theorem pk_alloc {w wx : World} {a : Option Addr} {cap q : Nat} {l : List UInt8} (h : PK w a cap l q wx) (o : Obj) : PK w a cap l q (wx.alloc o) := by
  have hs := h.size
  refine ⟨h.below.alloc (by omega) o, by simp; omega, ?_, ?_, h.grp.alloc o⟩
  · rw [Below.heap_alloc _ _ _ (by omega)]; exact h.box
  · rw [Below.heap_alloc _ _ _ (by omega)]; exact h.var
theorem pk_drewN {w wx : World} {a : Option Addr} {cap q : Nat} {l : List UInt8} (h : PK w a cap l q wx) (m : Nat) : PK w a cap l q (wx.drewN m) :=
  ⟨below_drewN h.below m, h.size, h.box, h.var, h.grp.drewN m⟩

set_option maxRecDepth 100000 in
set_option maxHeartbeats 1000000 in
theorem pieces_any (a : Option Addr) (N cap : Nat) (l : List UInt8) (w : World) (hl : l.length ≤ 1099511627776) (h : RB w a N cap l) :
    Calls Try.prog 19 #[.slice a N cap] w (RetP w (pieces l)) := by
  obtain rfl := RB.len h
  have hmm := @run_makeMap Try.prog
  go_enter Try.func19, Try.ntmps19
  go_wp2
  go_loopw [3, 6] (fun v p wr => ∃ (q g n c : Nat) (b : Option Addr) (ps : List Piece), v = .slice b n c ∧ p = .int .i64 q ∧ q ≤ l.length ∧ n ≤ q ∧ OP wr (w.heap.size + 3) b n c ps ∧ l.length - q ≤ g ∧ ps ++ piecesF l g q = pieces l ∧ PK w a cap l q wr)
    (fun _ p _ => l.length - (intOf p).toNat)
  case atStart =>
    refine ⟨0, l.length, 0, 0, none, [], rfl, rfl, by omega, by omega, World.ownsRow_nil _ _ _ _, by omega, rfl, ?_⟩
    exact pk_start w a cap l
  case round =>
    obtain ⟨q, g, n, c, b, ps, rfl, rfl, hq, hn, hown, hg, hps, hk⟩ := hrel
    have Hps := Lib.hid hps
    have hsz := hk.size
    clear hps
    have hb1 := cell_of_one hk.box
    have hb2 : wr.cell? ⟨w.heap.size + 1 + 1, 0, none⟩ = some (.map (some (w.heap.size + 1))) := cell_of_one hk.var
    by_cases hlt : q < l.length
    · obtain ⟨b1, b2, b3, b4, b5⟩ := best_inv l q (by omega)
      have hr : RB wr a l.length cap l := rd_below0 h hk.below
      obtain ⟨bb, off, hidx, hc⟩ := Rd.open hr 22 5 Try.underlying22 (by kernel_rfl)
      have hc' : ∀ j, j < l.length → wr.cell? ⟨bb, off + j, none⟩ = some (.int .u8 (at8 l j)) := fun j hj => by rw [hc j (by simpa using hj), cB_get]
      have c0 := hc' q hlt
      clear hc
      go_upto_if 23 with fail
      go_cut [7, 8, 13, 14] from 9 to 102 (fun u v y z wx => ∃ (s : Nat × Nat) (m : Nat), u = .int .i64 s.1 ∧ v = .int .i64 s.2 ∧ y = .map (some (w.heap.size + 1)) ∧ z = .func (Fn.func 51) #[] #[.pointer (some ⟨w.heap.size, 0, none⟩), .pointer (some ⟨w.heap.size + 1 + 1, 0, none⟩)] ∧ Alike (best l q) s ∧ wx = wr.drewN m)
      case first =>
        by_cases h3 : q + 3 ≤ l.length
        · have d3 : decide ((q : Int) + 3 ≤ l.length) = true := by simp; omega
          rw [d3]
          have y1 : q + 1 < l.length := by omega
          have y2 : q + 2 < l.length := by omega
          have c1 := hc' (q + 1) (by omega)
          have c2 := hc' (q + 2) (by omega)
          obtain ⟨pa, pn, pk, hlook, hpown⟩ := grp_lookup hk.grp (tri l q)
          have hlook' : ∀ m, (Instr.lookup 74 (.map (some (w.heap.size + 1))) (.agg #[.int .u8 (at8 l q), .int .u8 (at8 l (q + 1)), .int .u8 (at8 l (q + 2))]) false).run Try.prog (wr.drewN m) = .ok (.slice pa pn pk) (wr.drewN m) := hlook
          obtain rfl : pn = (npl l q (tri l q)).length := by have := (OI.ri hpown).len; simp [places] at this; exact this
          obtain ⟨pb, poff, pidx, pcell⟩ := Rd.open (OI.ri hpown) 53 3 Try.underlying53 (by kernel_rfl)
          have hpb := pscan_best l q h3
          have hnl := npl_length l q (tri l q)
          have hnlt := npl_lt l q (tri l q)
          have pcell' : ∀ j, j < (npl l q (tri l q)).length → wr.cell? ⟨pb, poff + j, none⟩ = some (.int .i64 ((atN (npl l q (tri l q)) j : Nat) : Int)) := fun j hj => by
            rw [pcell j (by simpa [places] using hj), cI_get]
            simp [atI, atN, places, List.getD, List.getElem?_map, List.getElem?_eq_getElem hj]
          have hgl : ∀ j, j < (npl l q (tri l q)).length → atN (npl l q (tri l q)) j < q := fun j hj => hnlt _ (by rw [atN]; rw [List.getD, List.getElem?_eq_getElem hj]; exact List.getElem_mem hj)
          generalize npl l q (tri l q) = np at *
          clear hlook pcell hpown hnlt
          have Hpb := Lib.hid hpb
          clear hpb
          go_wp2
          go_quiet (fail)
          go_wp2
          go_loopw [7, 8, 10] (fun u v x wx => ∃ (s : Nat × Nat) (m : Nat), u = .int .i64 s.1 ∧ v = .int .i64 s.2 ∧ s.1 ≤ 258 ∧ wx = wr.drewN m ∧
              ((∃ j : Nat, x = .int .i64 j ∧ j < np.length ∧ pscan l q (np.take (j + 1)).reverse s = pscan l q np.reverse (0, 0)) ∨ (x = .int .i64 (-1) ∧ s = pscan l q np.reverse (0, 0))))
            (fun _ _ x _ => (intOf x + 1).toNat)
          case atStart =>
            refine ⟨(0, 0), nq, rfl, rfl, by simp, rfl, ?_⟩
            rcases Nat.eq_zero_or_pos np.length with h0 | h0
            · right
              rw [List.eq_nil_of_length_eq_zero h0]
              exact ⟨by simp, rfl⟩
            · left
              exact ⟨np.length - 1, by congr 1; omega, by omega, by rw [show np.length - 1 + 1 = np.length by omega, List.take_length]⟩
          case round =>
            obtain ⟨⟨s1, s2⟩, m, rfl, rfl, hs1, rfl, hx | hx⟩ := hrel
            · obtain ⟨j, rfl, hj, hs⟩ := hx
              simp only at hs1
              have Hs := Lib.hid hs
              clear hs
              have e1 := pcell' j hj
              have e2 := hgl j hj
              have hst1 := @pscan_step l q j np (s1, s2) hj
              have hst2 := @pscan_stop l q j np (s1, s2) hj
              have Hst1 := Lib.hid hst1
              have Hst2 := Lib.hid hst2
              clear hst1 hst2
              obtain ⟨v, hv⟩ : ∃ v, v = atN np j := ⟨_, rfl⟩
              rw [← hv] at e1 e2
              have Hv := Lib.hid hv
              clear hv pcell'
              by_cases hc1 : q - v ≤ 32768
              · have d1 : decide ((q : Int) - v ≤ 32768) = true := by simp; omega
                by_cases hc2 : s1 < 258
                · have d2 : decide ((s1 : Int) < 258) = true := by simp; omega
                  go_wp2
                  go_quiet ((go_at_call 52; go_must (refine quiet_of2 (same_any a l.length cap l v q _ (by omega) (hr.drewN _) (by omega) (by omega)))))
                  go_wp2
                  · have hlt2 : s1 < longest l v q := by assumption
                    have h258 := longest_le l v q
                    go_quiet (fail)
                    go_wp2
                    go_roundw
                    case rel =>
                      refine ⟨(longest l v q, q - v), _, rfl, by go_num, h258, rfl, ?_⟩
                      have hst := Hst1.out (by rw [← Hv.out]; exact hc1) hc2
                      rw [Hs.out, ← Hv.out, if_pos hlt2] at hst
                      exact next_place hj hst
                    case measure => first | (simp [intOf]; done) | (simp [intOf]; omega)
                  · have hlt2 : ¬ s1 < longest l v q := by assumption
                    go_roundw
                    case rel =>
                      refine ⟨(s1, s2), _, rfl, rfl, hs1, rfl, ?_⟩
                      have hst := Hst1.out (by rw [← Hv.out]; exact hc1) hc2
                      rw [Hs.out, ← Hv.out, if_neg hlt2] at hst
                      exact next_place hj hst
                    case measure => first | (simp [intOf]; done) | (simp [intOf]; omega)
                · have d2 : decide ((s1 : Int) < 258) = false := by simp; omega
                  go_wp2
                  go_meet
                  refine ⟨(s1, s2), _, rfl, rfl, rfl, rfl, ?_, rfl⟩
                  have hst := Hst2.out (fun h => hc2 h.2)
                  rw [hst] at Hs
                  rw [Hs.out]; exact Hpb.out
              · have d1 : decide ((q : Int) - v ≤ 32768) = false := by simp; omega
                go_wp2
                go_meet
                refine ⟨(s1, s2), _, rfl, rfl, rfl, rfl, ?_, rfl⟩
                have hst := Hst2.out (fun h => hc1 (by rw [Hv.out]; exact h.1))
                rw [hst] at Hs
                rw [Hs.out]; exact Hpb.out
            · obtain ⟨rfl, hs⟩ := hx
              have Hs := Lib.hid hs
              clear hs
              go_wp2
              go_meet
              exact ⟨(s1, s2), _, rfl, rfl, rfl, rfl, by rw [Hs.out]; exact Hpb.out, rfl⟩
        · have d3 : decide ((q : Int) + 3 ≤ l.length) = false := by simp; omega
          rw [d3]
          go_wp2
          go_meet
          exact ⟨(0, 0), 0, rfl, rfl, rfl, rfl, .inr ⟨best_short l q hq h3, rfl⟩, rfl⟩
      case rest =>
        obtain ⟨⟨s1, s2⟩, m, rfl, rfl, rfl, rfl, hal, rfl⟩ := hcut
        have hown' : OP (wr.drewN m) (w.heap.size + 3) b n c ps := hown
        have hkm := pk_drewN hk m
        have c0' : (wr.drewN m).cell? ⟨bb, off + q, none⟩ = some (.int .u8 (at8 l q)) := c0
        have hrm := hr.drewN m
        have hb1' := cell_of_one hkm.box
        have hb2' : (wr.drewN m).cell? ⟨w.heap.size + 1 + 1, 0, none⟩ = some (.map (some (w.heap.size + 1))) := cell_of_one hkm.var
        have hsz' : w.heap.size + 3 ≤ (wr.drewN m).heap.size := hsz
        clear c0 hb1 hb2 hc' hsz hr
        generalize wr.drewN m = wx at *
        rcases hal with ⟨h3, hs⟩ | ⟨h3, hs⟩
        · have e1 : (best l q).1 = s1 := by rw [← hs]
          have e2 : (best l q).2 = s2 := by rw [← hs]
          have He1 := Lib.hid e1
          have He2 := Lib.hid e2
          rw [e1] at b1 b2 b5 h3
          rw [e2] at b3 b4 b5
          clear e1 e2 hs
          have d3 : decide ((3 : Int) ≤ s1) = true := by simp; omega
          go_wp2_with (at_builtin; go_must (refine wpList_appP rfl _ _ rfl (w.heap.size + 3) b n c ps rfl ((hown'.alloc _).alloc _) _ 1 1 [⟨s1, s2, 0⟩] rfl (rp_new _ _ _ _ _ _ 0 (by simp) rfl) (by omega) (by simp; omega) ?_); intro a' c' w1 hown1 hgrew; have hx0 := box_kept hgrew (fun g hg => (hown'.blk g hg).2) (j := 0) rfl)
          have hk1 : PK w a cap l q w1 := pk_grew (pk_alloc (pk_alloc hkm _) _) ((hown'.alloc _).alloc _) hgrew
          obtain ⟨g', hg', hpf⟩ := piecesF_copy hlt hg (by rw [He1.out]; exact h3)
          rw [He1.out] at hg' hpf
          rw [He2.out] at hpf
          have Hpf := Lib.hid hpf
          clear hpf hx0 hown' hkm c0' hrm hb1' hb2' hsz' hgrew hown hk
          go_loopw [6, 95] (fun u v wy => ∃ j : Nat, u = .int .i64 ((q + j : Nat) : Int) ∧ v = .int .i64 j ∧ j ≤ s1 ∧ PK w a cap l (q + j) wy ∧ OP wy (w.heap.size + 3) a' (n + 1) c' (ps ++ [⟨s1, s2, 0⟩]))
            (fun _ v _ => s1 - (intOf v).toNat)
          case atStart => exact ⟨0, rfl, rfl, by omega, hk1, hown1⟩
          case round =>
            obtain ⟨j, rfl, rfl, hj, hky, howny⟩ := hrel
            by_cases hjl : j < s1
            · go_wp2_with (go_at_call 51; go_must (refine (note_any a l.length cap w.heap.size (w.heap.size + 1 + 1) (w.heap.size + 3) (w.heap.size + 1) l (q + j) _ hl (rd_below0 h hky.below) (cell_of_one hky.box) (cell_of_one hky.var) hky.grp hky.size (by omega)).mono ?_); rintro e w' ⟨rfl, hG, hm⟩)
              go_roundw
              case rel => exact ⟨j + 1, by go_num, by go_num, by omega, pk_note hky hG hm, op_note howny (by omega) hm⟩
              case measure => simp [intOf]; omega
            · have hjs : j = s1 := by omega
              subst hjs
              go_wp2
              refine ⟨?_, by simp [intOf]; omega⟩
              repeat apply Exists.intro
              exact ⟨⟨q + j, g', n + 1, c', a', ps ++ [⟨j, s2, 0⟩], rfl, rfl, by omega, by omega, howny, hg', by rw [← Hps.out, Hpf.out]; simp, hky⟩, rfl⟩
        · have hs' : s1 = 0 := hs
          subst hs'
          clear hs
          have hbyte : at8 l q = ((l.getD q 0).toNat : Int) := rfl
          have Hbyte := Lib.hid hbyte
          clear hbyte
          go_wp2_with (at_builtin; go_must (refine wpList_appP rfl _ _ rfl (w.heap.size + 3) b n c ps rfl ((hown'.alloc _).alloc _) _ 1 1 [⟨0, 0, l.getD q 0⟩] rfl (rp_new _ _ _ _ _ _ (l.getD q 0) (by simp) Hbyte.out) (by omega) (by simp; omega) ?_); intro a' c' w1 hown1 hgrew; have hx0 := box_kept hgrew (fun g hg => (hown'.blk g hg).2) (j := 0) rfl)
          have hk1 : PK w a cap l q w1 := pk_grew (pk_alloc (pk_alloc hkm _) _) ((hown'.alloc _).alloc _) hgrew
          obtain ⟨g', hg', hpf⟩ := piecesF_byte hlt hg (by omega)
          have Hpf := Lib.hid hpf
          clear hpf hx0 hown' hkm c0' hrm hb1' hb2' hsz' hgrew hown hk
          go_loopw [6, 95] (fun u v wy => ∃ j : Nat, u = .int .i64 ((q + j : Nat) : Int) ∧ v = .int .i64 j ∧ j ≤ 1 ∧ PK w a cap l (q + j) wy ∧ OP wy (w.heap.size + 3) a' (n + 1) c' (ps ++ [⟨0, 0, l.getD q 0⟩]))
            (fun _ v _ => 1 - (intOf v).toNat)
          case atStart => exact ⟨0, rfl, rfl, by omega, hk1, hown1⟩
          case round =>
            obtain ⟨j, rfl, rfl, hj, hky, howny⟩ := hrel
            by_cases hjl : j < 1
            · go_wp2_with (go_at_call 51; go_must (refine (note_any a l.length cap w.heap.size (w.heap.size + 1 + 1) (w.heap.size + 3) (w.heap.size + 1) l (q + j) _ hl (rd_below0 h hky.below) (cell_of_one hky.box) (cell_of_one hky.var) hky.grp hky.size (by omega)).mono ?_); rintro e w' ⟨rfl, hG, hm⟩)
              go_roundw
              case rel => exact ⟨j + 1, by go_num, by go_num, by omega, pk_note hky hG hm, op_note howny (by omega) hm⟩
              case measure => simp [intOf]; omega
            · have hjs : j = 1 := by omega
              subst hjs
              go_wp2
              refine ⟨?_, by simp [intOf]; omega⟩
              repeat apply Exists.intro
              exact ⟨⟨q + 1, g', n + 1, c', a', ps ++ [⟨0, 0, l.getD q 0⟩], rfl, rfl, by omega, by omega, howny, hg', by rw [← Hps.out, Hpf.out]; simp, hky⟩, rfl⟩
    · go_wp2
      go_ret
      exact ⟨b, n, c, rfl, by rw [← Hps.out, piecesF_end hlt, List.append_nil]; exact own_mono hown (by omega), hk.below⟩
end Go.Proofs.Ytpfalaghggjbjaa
