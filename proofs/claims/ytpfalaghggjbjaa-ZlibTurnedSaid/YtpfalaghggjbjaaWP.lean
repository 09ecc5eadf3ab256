/-
  The walk of sluicegateref05.Fixed.
  Conditions: the slice reads as a list of pieces, no longer than 2^30.
-/
import Derived.Test.YtpfalaghggjbjaaWF
import Derived.Test.YtpfalaghggjbjaaWO
namespace Go.Proofs.Ytpfalaghggjbjaa
open Go.RowKit

theorem refKey_any {a : Option Addr} {n c : Nat} {l : List Nat} {w : World} (hn : l.length = n) (hl : n ≤ 320) (h9 : ∀ x ∈ l, x ≤ 9) (hok : (checkP l).2 = 0) (h : RI w a n c (natI l)) :
    Calls Try.prog 76 #[.slice a n c] w (KeyPost (codesP l) n w) := by
  refine (refCodes_any a n c l w (by omega) (fun x hx => Nat.le_trans (h9 x hx) (by omega)) hok h).mono ?_
  rintro e w' ⟨a', c', rfl, ho, hb⟩
  rw [codesP_length, hn] at ho
  exact ⟨a', c', by rw [codesP_length, hn], ho, hb⟩
def SStPost (w : World) (p B : Nat) (bits : List Nat) (s : List UInt8 × Nat) (en : Ending) (w' : World) : Prop := en = .returned (.tuple #[]) ∧ Below B w w' ∧ ∃ s', s' = putAll s bits ∧ Wr 108 w' p B s'
theorem sfield_at {p B n : Nat} {s : List UInt8 × Nat} {x y : Int} {w : World} (hy : y = (n : Int)) (hn : n ≤ 13) (h : Wr 108 w p B s) (hp : B ≤ p) (hs : s.1.length = (s.2 + 7) / 8) (hs2 : s.2 ≤ 109951162777) :
    Calls Try.prog 77 #[.pointer (some ⟨p, 0, none⟩), .int .i64 x, .int .i64 y] w (SStPost w p B (fieldBits x n) s) := by
  subst hy
  exact (sfield_any p B n s x w h hp hs (by omega) (by omega)).mono fun e w' ⟨h1, h2, h3⟩ => ⟨h1, h3, _, rfl, h2⟩
theorem scode_at {p B n : Nat} {s : List UInt8 × Nat} {x y : Int} {w : World} (hy : y = (n : Int)) (hn : n ≤ 13) (h : Wr 108 w p B s) (hp : B ≤ p) (hs : s.1.length = (s.2 + 7) / 8) (hs2 : s.2 ≤ 109951162777) :
    Calls Try.prog 78 #[.pointer (some ⟨p, 0, none⟩), .int .i64 x, .int .i64 y] w (SStPost w p B (codeBits x n) s) := by
  subst hy
  exact (scode_any p B n s x w h hp hs (by omega) (by omega)).mono fun e w' ⟨h1, h2, h3⟩ => ⟨h1, h3, _, rfl, h2⟩
theorem swr_new (w : World) : Wr 108 (w.alloc (.cells #[.slice none 0 0, .int .i64 0] 108)) w.heap.size w.heap.size ([], 0) := ⟨none, 0, heap_alloc_new w _, ob_nil _ _⟩

theorem lsym_ge (n : Nat) : 257 ≤ lsym n := by
  unfold lsym; split
  · omega
  · exact (lastLe_ge lbase n 257 27).1

set_option maxRecDepth 100000 in
set_option maxHeartbeats 2000000 in
theorem refFixedW_any (L D : List Nat) (hT : Tab L D) (htab : ∀ w, Calls Try.prog 75 #[] w (TabPost L D w)) (a : Option Addr) (N cap : Nat) (l : List Piece) (w : World) (hl : l.length ≤ 1073741824) (h : RP w a N cap l) :
    Calls Try.prog 55 #[.slice a N cap] w (RetBE w (fixedG L D l).1 (fixedG L D l).2) := by
  obtain rfl := RP.len h
  have hexp := refExpand_any a l.length cap l w hl h
  have hmay := expand_may l []
  unfold fixedG
  generalize hex : expand l [] = ex at *
  obtain ⟨ebs, en⟩ := ex
  obtain ⟨b, off, hidx, hc⟩ := Rd.open h 26 31 Try.underlying26 (by kernel_rfl)
  have hcs := fun i hi => @rp_cells w b off l hc i hi
  clear hc
  simp only at hexp hmay ⊢
  by_cases hen : en = 0
  · subst hen
    have hmay := hmay rfl
    rw [if_pos rfl]
    have hkL := fun w a c => @refKey_any a 288 c L w hT.l1 (by omega) hT.b1 hT.o1
    have hkD := fun w a c => @refKey_any a 32 c D w hT.l2 (by omega) hT.b2 hT.o2
    go_enter Try.func55, Try.ntmps55
    go_wp2_with (first
      | (fail)
      | (go_at_call 74; go_must (refine hexp.mono ?_); rintro e w1 ⟨a1, m1, c1, rfl, hob1, hb1⟩)
      | (go_at_call 75; go_must (refine (htab _).mono ?_); rintro e w2 ⟨aL, cL, aD, cD, rfl, hL, hD, hb2⟩)
      | (go_at_call 76; first
          | (have _t := hb3; go_must (refine (hkD w3 aD cD (rd_below hD.ri hb3 (fun g hg => (hD.blk g hg).2))).mono ?_); rintro e w4 ⟨aY, cY, rfl, hY, hb4⟩)
          | (go_must (refine (hkL w2 aL cL hL.ri).mono ?_); rintro e w3 ⟨aX, cX, rfl, hX, hb3⟩))
      | (go_at_call 77; first
          | (have _t := hb5; go_must (refine (sfield_at (p := w4.heap.size) (B := w4.heap.size) (n := 2) (s := s5) rfl (by omega) hw5 (Nat.le_refl _) hs5.1 hs5.2).mono ?_); rintro e w6 ⟨rfl, hb6, s6, rfl, hw6⟩)
          | (go_must (refine (sfield_at (p := w4.heap.size) (B := w4.heap.size) (n := 1) rfl (by omega) (swr_new w4) (Nat.le_refl _) rfl (by decide)).mono ?_); rintro e w5 ⟨rfl, hb5, s5, e5, hw5⟩
             have hs5 : s5.1.length = (s5.2 + 7) / 8 ∧ s5.2 ≤ 109951162777 := by rw [e5]; decide)))
    obtain ⟨bX, oX, iX, kX⟩ := tab_cells hX
    obtain ⟨bY, oY, iY, kY⟩ := tab_cells hY
    obtain ⟨bL, oL, iL, kL⟩ := tab_cells hL
    obtain ⟨bD, oD, iD, kD⟩ := tab_cells hD
    have hz1 := hb1.size
    have hz2 := hb2.size
    have hz3 := hb3.size
    have hz4 := hb4.size
    have kX := fun j hj => cell_below (kX j hj) hb4
    have kL := fun j hj => cell_below (cell_below (kL j hj) hb3) hb4
    have kD := fun j hj => cell_below (cell_below (kD j hj) hb3) hb4
    have bAll : Below w.heap.size w w4 := ((hb1.trans (hb2.mono hz1)).trans (hb3.mono (by omega))).trans (hb4.mono (by omega))
    simp only [atI_natI] at kL kD
    have hBw : w.heap.size ≤ w4.heap.size := by omega
    have b6 : Below w4.heap.size w4 w6 := ((Below.refl _ _).alloc (Nat.le_refl _) _).trans (hb5.trans hb6)
    have hl6 : (putAll s5 (fieldBits 1 2)).1.length = ((putAll s5 (fieldBits 1 2)).2 + 7) / 8 := putAll_len _ _ hs5.1
    have hn6 : (putAll s5 (fieldBits 1 2)).2 ≤ 3 := by rw [e5, putAll_snd, putAll_snd]; decide
    have hF : putAll (putAll s5 (fieldBits 1 2)) (restBits L D l) = putAll ([], 0) (fixedBits L D l) := by rw [e5, ← putAll_append, ← putAll_append]; rfl
    have hwB : ∀ q : Addr, ∀ v, w4.cell? q = some v → q.block < w4.heap.size := fun q v hq => World.block_lt_of_cell? _ _ hq
    have hcw := fun i hi => (hcs i hi)
    have kP : ∀ i, i < l.length → w4.cell? ⟨b, off + i * 3, none⟩ = some (.int .i64 (l.getD i ⟨0, 0, 0⟩).len) ∧ w4.cell? ⟨b, off + i * 3 + 1, none⟩ = some (.int .i64 (l.getD i ⟨0, 0, 0⟩).dist) ∧ w4.cell? ⟨b, off + i * 3 + 2, none⟩ = some (.int .u8 ((l.getD i ⟨0, 0, 0⟩).byte.toNat : Int)) :=
      fun i hi => ⟨cell_below (hcs i hi).1 bAll, cell_below (hcs i hi).2.1 bAll, cell_below (hcs i hi).2.2 bAll⟩
    have hb1' := hT.b1
    have hb2' := hT.b2
    have HF := Lib.hid hF
    have Hl6 := Lib.hid hl6
    clear hF hl6 hkL hkD hexp htab hcs hL hD hX hY hb1 hb2 hb3 hb4 hb5 hb6 hz1 hz2 hz3 hz4 hob1 hw5 e5 hwB hcw
    generalize putAll s5 (fieldBits 1 2) = s6 at *
    go_loopw [13] (fun u wr => ∃ (i : Nat) (st : List UInt8 × Nat), u = .int .i64 i ∧ i ≤ l.length ∧ Wr 108 wr w4.heap.size w4.heap.size st ∧ st.1.length = (st.2 + 7) / 8 ∧ st.2 ≤ 64 * i + 3 ∧ putAll st (restBits L D (l.drop i)) = putAll ([], 0) (fixedBits L D l) ∧ Below w4.heap.size w4 wr)
      (fun u _ => l.length - (intOf u).toNat)
    case atStart => exact ⟨0, s6, rfl, by omega, hw6, Hl6.out, by omega, HF.out, b6⟩
    case round =>
      obtain ⟨i, st, rfl, hi, hwr, hlen, hst, hF, hbel⟩ := hrel
      have HF := Lib.hid hF
      have Hlen := Lib.hid hlen
      clear hF hlen hw6 hn6 Hl6
      by_cases hlt : i < l.length
      · have hd := drop_at hlt
        have hm : mayB (l.getD i ⟨0, 0, 0⟩) = true := hmay (by trivial) _ (by rw [List.getD, List.getElem?_eq_getElem hlt]; exact List.getElem_mem hlt)
        obtain ⟨v0, v1, v2⟩ := kP i hlt
        have c0 := cell_below v0 hbel
        have c1 := cell_below v1 hbel
        have c2 := cell_below v2 hbel
        have Hd := Lib.hid hd
        clear hd
        generalize l.getD i ⟨0, 0, 0⟩ = p at *
        obtain ⟨pl, pd, pb⟩ := p
        simp only at c0 c1 c2
        have d : decide ((i : Int) < l.length) = true := by simp; omega
        by_cases h0 : pl = 0
        · subst h0
          have hp256 := pb.toNat_lt
          have x1 := cell_below (kX pb.toNat (by omega)) hbel
          have x2 := cell_below (kL pb.toNat (by omega)) hbel
          have j1 := idx_at iX .i64 pb.toNat _ rfl (by omega)
          have j2 := idx_at iL .i64 pb.toNat _ rfl (by omega)
          clear iX iL iY iD
          have hn2 : st.2 ≤ 109951162777 := by omega
          have hL9 : atN L pb.toNat ≤ 9 := atN_le_of hb1' _
          go_wp2
          go_still_tail 9, (by kernel_rfl)
          change wpList _ _ _ _ _ wr.drew
          have hwd : Wr 108 wr.drew w4.heap.size w4.heap.size st := hwr
          go_wp2_with (go_at_call 78; go_must (refine (scode_at (p := w4.heap.size) (B := w4.heap.size) (n := atN L pb.toNat) (s := st) rfl (by omega) hwd (Nat.le_refl _) Hlen.out hn2).mono ?_); rintro e w7 ⟨rfl, hb7, s7, e7, hw7⟩)
          go_roundw
          case rel =>
            refine ⟨i + 1, s7, by go_num, by omega, hw7, by rw [e7]; exact putAll_len _ _ Hlen.out, by rw [e7, putAll_snd, codeBits_length]; omega, ?_, (hbel.drew).trans hb7⟩
            rw [← HF.out, Hd.out, restBits_cons, putAll_append, e7]
            unfold pieceBits
            rw [if_pos rfl]
            rfl
          case measure => simp [intOf]; omega
        · obtain ⟨n0, d0, rfl, rfl, rfl, g1, g2, g3, g4⟩ : ∃ n0 d0 : Nat, pl = n0 ∧ pd = d0 ∧ pb = 0 ∧ 3 ≤ n0 ∧ n0 ≤ 258 ∧ 1 ≤ d0 ∧ d0 ≤ 32768 := by
            rcases mayB_cases hm with ⟨h1, _⟩ | ⟨h1, h2, h3, h4, h5⟩
            · exact absurd h1 h0
            · simp only at h1 h2 h3 h4 h5
              exact ⟨pl.toNat, pd.toNat, by omega, by omega, h5, by omega, by omega, by omega, by omega⟩
          have hbits : pieceBits L D ⟨n0, d0, 0⟩ = codeFor L (lsym n0) ++ (fieldBits ((n0 : Int) - (lbase (lsym n0) : Nat)) (lbits (lsym n0)) ++ (codeFor D (dsym d0) ++ fieldBits ((d0 : Int) - (dbase (dsym d0) : Nat)) (dbits (dsym d0)))) := by
            unfold pieceBits
            rw [if_neg h0]
            simp only [Int.toNat_natCast]
          have Hbits := Lib.hid hbits
          have hS1 : lsym n0 ≤ 285 := lsym_le g2
          have hS2 := lbase_le g1 g2
          have hS3 := lbits_le hS1
          have hE1 := dsym_le d0
          have hE2 := dbase_le g3
          have hE3 := dbits_le hE1
          have hS0 : 257 ≤ lsym n0 := lsym_ge n0
          have hlen := lengthOf_any n0 g2
          have hdis := distanceOf_any d0 g4
          have hLen := Length_any (lsym n0) hS0 hS1
          have hDis := Distance_any (dsym d0) hE1
          clear hbits hm
          generalize lsym n0 = S at *
          generalize dsym d0 = E at *
          generalize lbase S = SB at *
          generalize lbits S = SN at *
          generalize dbase E = EB at *
          generalize dbits E = EN at *
          have d0' : ((n0 : Int) == 0) = false := by simp; omega
          go_wp2_with (first | (go_at_call 79; go_must (refine (hlen _).mono ?_); rintro e wz ⟨rfl, rfl⟩) | (go_at_call 80; go_must (refine (hLen _).mono ?_); rintro e wz ⟨rfl, rfl⟩))
          have x1 := cell_below (kX S (by omega)) hbel
          have x2 := cell_below (kL S (by omega)) hbel
          have j1 := idx_at iX .i64 S _ rfl (by omega)
          have j2 := idx_at iL .i64 S _ rfl (by omega)
          have j3 := idx_at iY .i64 E _ rfl (by omega)
          have j4 := idx_at iD .i64 E _ rfl (by omega)
          clear iX iL iY iD
          have hL9 : atN L S ≤ 9 := atN_le_of hb1' _
          have hD9 : atN D E ≤ 9 := atN_le_of hb2' _
          go_still_tail 9, (by kernel_rfl)
          change wpList _ _ _ _ _ wr.drew
          have hWd : Wr 108 wr.drew w4.heap.size w4.heap.size st := hwr
          have hn2 : st.2 ≤ 109951162777 := by omega
          go_wp2_with (first
            | (go_at_call 78; go_must (refine (scode_at (p := w4.heap.size) (B := w4.heap.size) (n := atN L S) (s := st) rfl (by omega) hWd (Nat.le_refl _) Hlen.out hn2).mono ?_); rintro e w7 ⟨rfl, hb7, s7, e7, hw7⟩
               have B7 := hbel.drew.trans hb7; have c70 := cell_below v0 B7; have c71 := cell_below v1 B7
               have l7 : s7.1.length = (s7.2 + 7) / 8 ∧ s7.2 ≤ st.2 + 9 := by rw [e7]; exact ⟨putAll_len _ _ Hlen.out, by rw [putAll_snd, codeBits_length]; omega⟩)
            | (go_at_call 77; go_must (refine (sfield_at (p := w4.heap.size) (B := w4.heap.size) (n := SN) (s := s7) rfl (by omega) hw7 (Nat.le_refl _) l7.1 (by omega)).mono ?_); rintro e w8 ⟨rfl, hb8, s8, e8, hw8⟩
               have B8 := B7.trans hb8; have c80 := cell_below v0 B8; have c81 := cell_below v1 B8
               have l8 : s8.1.length = (s8.2 + 7) / 8 ∧ s8.2 ≤ st.2 + 15 := by rw [e8]; exact ⟨putAll_len _ _ l7.1, by rw [putAll_snd, fieldBits_length]; omega⟩)
            | (go_at_call 81; go_must (refine (hdis _).mono ?_); rintro e wz' ⟨rfl, rfl⟩)
            | (go_at_call 82; go_must (refine (hDis _).mono ?_); rintro e wz' ⟨rfl, rfl⟩))
          clear hdis hDis hlen hLen
          have y1 := cell_below (kY E (by omega)) B8
          have y2 := cell_below (kD E (by omega)) B8
          go_still_tail 9, (by kernel_rfl)
          change wpList _ _ _ _ _ w8.drew
          have hWf : Wr 108 w8.drew w4.heap.size w4.heap.size s8 := hw8
          go_wp2_with (first
            | (go_at_call 78; go_must (refine (scode_at (p := w4.heap.size) (B := w4.heap.size) (n := atN D E) (s := s8) rfl (by omega) hWf (Nat.le_refl _) l8.1 (by omega)).mono ?_); rintro e w9 ⟨rfl, hb9, s9, e9, hw9⟩
               have B9 := B8.drew.trans hb9; have c90 := cell_below v0 B9; have c91 := cell_below v1 B9
               have l9 : s9.1.length = (s9.2 + 7) / 8 ∧ s9.2 ≤ st.2 + 24 := by rw [e9]; exact ⟨putAll_len _ _ l8.1, by rw [putAll_snd, codeBits_length]; omega⟩)
            | (go_at_call 77; go_must (refine (sfield_at (p := w4.heap.size) (B := w4.heap.size) (n := EN) (s := s9) rfl (by omega) hw9 (Nat.le_refl _) l9.1 (by omega)).mono ?_); rintro e wA ⟨rfl, hbA, sA, eA, hwA⟩))
          go_roundw
          case rel =>
            refine ⟨i + 1, sA, by go_num, by omega, hwA, by rw [eA]; exact putAll_len _ _ l9.1, by rw [eA, putAll_snd, fieldBits_length]; omega, ?_, B9.trans hbA⟩
            rw [← HF.out, Hd.out, restBits_cons, putAll_append, eA, e9, e8, e7, Hbits.out, putAll_append, putAll_append, putAll_append]
            rfl
          case measure => simp [intOf]; omega
      · have hil : i = l.length := by omega
        subst hil
        rw [List.drop_length] at HF
        have hX := cell_below (kX 256 (by omega)) hbel
        have hL := cell_below (kL 256 (by omega)) hbel
        have j1 := idx_at iX .i64 256 256 rfl (by omega)
        have j2 := idx_at iL .i64 256 256 rfl (by omega)
        have hL9 : atN L 256 ≤ 9 := atN_le_of hb1' _
        clear iX iL iY iD
        go_wp2
        go_still_tail 7, (by kernel_rfl)
        change wpList _ _ _ _ _ wr.drew
        have hWd : Wr 108 wr.drew w4.heap.size w4.heap.size st := hwr
        go_wp2_with (go_at_call 78; go_must (refine (scode_at (p := w4.heap.size) (B := w4.heap.size) (n := atN L 256) (s := st) rfl (by omega) hWd (Nat.le_refl _) Hlen.out (by omega)).mono ?_); rintro e w7 ⟨rfl, hb7, s7, e7, hw7⟩
                     obtain ⟨aZ, cZ, hZ0, hZ⟩ := hw7; have z0 := cell_at (j := 0) hZ0 rfl; have z1 := cell_at (j := 1) hZ0 rfl; have E7 := Lib.hid e7; clear e7)
        go_ret2
        have e : s7 = putAll ([], 0) (fixedBits L D l) := by rw [E7.out, ← HF.out]; rfl
        rw [← e]
        exact ⟨aZ, s7.1.length, cZ, rfl, own_mono hZ hBw, bAll.trans ((hbel.drew.trans hb7).mono hBw)⟩
  · rw [if_neg hen]
    have d : ((en : Int) != 0) = true := by simp; omega
    go_enter Try.func55, Try.ntmps55
    go_wp2_with (go_at_call 74; go_must (refine hexp.mono ?_); rintro e w1 ⟨a1, m1, c1, rfl, hob1, hb1⟩)
    go_ret2
    exact ⟨none, 0, 0, rfl, ob_nil _ _, hb1⟩
end Go.Proofs.Ytpfalaghggjbjaa
