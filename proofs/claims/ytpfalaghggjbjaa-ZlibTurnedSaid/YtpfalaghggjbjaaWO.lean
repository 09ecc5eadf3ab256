/-
  The walk of deflate.Fixed.
  Conditions: the slice reads as a list of pieces, no longer than 2^30.
-/
import Derived.Test.YtpfalaghggjbjaaWE
import Derived.Test.YtpfalaghggjbjaaWI
import Derived.Test.YtpfalaghggjbjaaWJ
import Derived.Test.YtpfalaghggjbjaaWN
import Derived.Test.YtpfalaghggjbjaaPlF
namespace Go.Proofs.Ytpfalaghggjbjaa
open Go.RowKit

/-- A made table reads as it was made, in every later world. -/
theorem tab_cells {w : World} {B n c : Nat} {a : Option Addr} {l : List Int} (h : OI w B a n c l) :
    ∃ b off, Idx Try.prog 53 a n c 1 b off ∧ ∀ j, j < n → w.cell? ⟨b, off + j, none⟩ = some (.int .i64 (atI l j)) := by
  obtain ⟨b, off, hidx, hc⟩ := Rd.open h.ri 53 3 Try.underlying53 (by kernel_rfl)
  have hl := h.ri.len
  exact ⟨b, off, hidx, fun j hj => by rw [hc j (by simpa [← hl] using hj), cI_get]⟩

theorem idx_at {t : TypeId} {a : Option Addr} {n c b off : Nat} (h : Idx Try.prog t a n c 1 b off) (k : IntKind) (j : Nat) (x : Int) (hx : x = (j : Int)) (hj : j < n) (w : World) :
    (Instr.indexAt t (.slice a n c) (.int k x)).run Try.prog w = .ok (.pointer (some ⟨b, off + j, none⟩)) w := by
  subst hx
  rw [h, if_pos ⟨by omega, by omega⟩, Int.toNat_natCast, Nat.mul_one]

/-- 'It hands back the lengths of the two codes, in memory of its own.' -/
def TabPost (L D : List Nat) (w : World) (e : Ending) (w' : World) : Prop :=
  ∃ a c a' c', e = .returned (.tuple #[.slice a 288 c, .slice a' 32 c']) ∧ OI w' w.heap.size a 288 c (natI L) ∧ OI w' w.heap.size a' 32 c' (natI D) ∧ Below w.heap.size w w'
/-- 'It hands back a code.' -/
def KeyPost (l : List Int) (n : Nat) (w : World) (e : Ending) (w' : World) : Prop :=
  ∃ a c, e = .returned (.tuple #[.slice a n c, .int .i64 0]) ∧ OI w' w.heap.size a n c l ∧ Below w.heap.size w w'
theorem key_any {a : Option Addr} {n c : Nat} {l : List Nat} {w : World} (hn : l.length = n) (hl : n ≤ 320) (h9 : ∀ x ∈ l, x ≤ 9) (hok : (checkP l).2 = 0) (h : RI w a n c (natI l)) :
    Calls Try.prog 60 #[.slice a n c] w (KeyPost (codesP l) n w) := by
  refine (codes_any a n c l w (by omega) (fun x hx => Nat.le_trans (h9 x hx) (by omega)) hok h).mono ?_
  rintro e w' ⟨a', c', rfl, ho, hb⟩
  rw [codesP_length, hn] at ho
  exact ⟨a', c', by rw [codesP_length, hn], ho, hb⟩

/-- What the writers hand back, the state told by facts alone. -/
def StPost (w : World) (p B : Nat) (bits : List Nat) (s : List UInt8 × Nat) (en : Ending) (w' : World) : Prop := en = .returned (.tuple #[]) ∧ Below B w w' ∧ KeepP w w' ∧ ∃ s', s' = putAll s bits ∧ Wr 80 w' p B s'
theorem field_at {p B n : Nat} {s : List UInt8 × Nat} {x y : Int} {w : World} (hy : y = (n : Int)) (hn : n ≤ 13) (h : Wr 80 w p B s) (hp : B ≤ p) (hs : s.1.length = (s.2 + 7) / 8) (hs2 : s.2 ≤ 109951162777) :
    Calls Try.prog 54 #[.pointer (some ⟨p, 0, none⟩), .int .i64 x, .int .i64 y] w (StPost w p B (fieldBits x n) s) := by
  subst hy
  exact (field_any p B n s x w h hp hs (by omega) (by omega)).mono fun e w' ⟨h1, h2, h3, h4⟩ => ⟨h1, h3, h4, _, rfl, h2⟩
theorem code_at {p B n : Nat} {s : List UInt8 × Nat} {x y : Int} {w : World} (hy : y = (n : Int)) (hn : n ≤ 13) (h : Wr 80 w p B s) (hp : B ≤ p) (hs : s.1.length = (s.2 + 7) / 8) (hs2 : s.2 ≤ 109951162777) :
    Calls Try.prog 61 #[.pointer (some ⟨p, 0, none⟩), .int .i64 x, .int .i64 y] w (StPost w p B (codeBits x n) s) := by
  subst hy
  exact (code_any p B n s x w h hp hs (by omega) (by omega)).mono fun e w' ⟨h1, h2, h3, h4⟩ => ⟨h1, h3, h4, _, rfl, h2⟩
theorem wr_alloc {e : Nat} {w : World} {p B : Nat} {s : List UInt8 × Nat} (h : Wr e w p B s) (o : Obj) : Wr e (w.alloc o) p B s := by
  obtain ⟨a, c, h1, h2⟩ := h
  exact ⟨a, c, heap_alloc h1 o, h2.alloc o⟩
theorem wr_drewN {e : Nat} {w : World} {p B : Nat} {s : List UInt8 × Nat} (h : Wr e w p B s) (m : Nat) : Wr e (w.drewN m) p B s := h
theorem heap_drewN {w : World} {p : Nat} {o : Obj} (h : w.heap[p]? = some o) (m : Nat) : (w.drewN m).heap[p]? = some o := h
theorem wr_new (w : World) : Wr 80 (w.alloc (.cells #[.slice none 0 0, .int .i64 0] 80)) w.heap.size w.heap.size ([], 0) := ⟨none, 0, heap_alloc_new w _, ob_nil _ _⟩

set_option maxRecDepth 100000 in
set_option maxHeartbeats 2000000 in
theorem fixedW_any (L D : List Nat) (hT : Tab L D) (htab : ∀ w, Calls Try.prog 59 #[] w (TabPost L D w)) (a : Option Addr) (N cap : Nat) (l : List Piece) (w : World) (hl : l.length ≤ 1073741824) (h : RP w a N cap l) :
    Calls Try.prog 34 #[.slice a N cap] w (RetBE w (fixedG L D l).1 (fixedG L D l).2) := by
  obtain rfl := RP.len h
  have hexp := expand_any a l.length cap l w hl h
  have hmay := expand_may l []
  unfold fixedG
  generalize hex : expand l [] = ex at *
  obtain ⟨ebs, en⟩ := ex
  obtain ⟨b, off, hidx, hc⟩ := Rd.open h 26 31 Try.underlying26 (by kernel_rfl)
  have hcs := fun i hi => @rp_cells w b off l hc i hi
  clear hc
  simp only at hexp hmay ⊢
  by_cases hen : en = 0
  · subst hen
    have hmay := hmay rfl
    rw [if_pos rfl]
    have hkL := fun w a c => @key_any a 288 c L w hT.l1 (by omega) hT.b1 hT.o1
    have hkD := fun w a c => @key_any a 32 c D w hT.l2 (by omega) hT.b2 hT.o2
    go_enter Try.func34, Try.ntmps34
    go_wp2_with (first
      | (fail)
      | (go_at_call 33; go_must (refine hexp.mono ?_); rintro e w1 ⟨a1, m1, c1, rfl, hob1, hb1⟩)
      | (go_at_call 59; go_must (refine (htab _).mono ?_); rintro e w2 ⟨aL, cL, aD, cD, rfl, hL, hD, hb2⟩)
      | (go_at_call 60; first
          | (have _t := hb3; go_must (refine (hkD w3 aD cD (rd_below hD.ri hb3 (fun g hg => (hD.blk g hg).2))).mono ?_); rintro e w4 ⟨aY, cY, rfl, hY, hb4⟩)
          | (go_must (refine (hkL w2 aL cL hL.ri).mono ?_); rintro e w3 ⟨aX, cX, rfl, hX, hb3⟩))
      | (go_at_call 54; first
          | (have _t := hb5; go_must (refine (field_at (p := w4.heap.size) (B := w4.heap.size) (n := 2) (s := s5) rfl (by omega) hw5 (Nat.le_refl _) hs5.1 hs5.2).mono ?_); rintro e w6 ⟨rfl, hb6, -, s6, rfl, hw6⟩)
          | (go_must (refine (field_at (p := w4.heap.size) (B := w4.heap.size) (n := 1) rfl (by omega) (wr_new w4) (Nat.le_refl _) rfl (by decide)).mono ?_); rintro e w5 ⟨rfl, hb5, -, s5, e5, hw5⟩
             have hs5 : s5.1.length = (s5.2 + 7) / 8 ∧ s5.2 ≤ 109951162777 := by rw [e5]; decide)))
    obtain ⟨bX, oX, iX, kX⟩ := tab_cells hX
    obtain ⟨bY, oY, iY, kY⟩ := tab_cells hY
    obtain ⟨bL, oL, iL, kL⟩ := tab_cells hL
    obtain ⟨bD, oD, iD, kD⟩ := tab_cells hD
    have hz1 := hb1.size
    have hz2 := hb2.size
    have hz3 := hb3.size
    have hz4 := hb4.size
    have kX := fun j hj => cell_below (kX j hj) hb4
    have kL := fun j hj => cell_below (cell_below (kL j hj) hb3) hb4
    have kD := fun j hj => cell_below (cell_below (kD j hj) hb3) hb4
    have bAll : Below w.heap.size w w4 := ((hb1.trans (hb2.mono hz1)).trans (hb3.mono (by omega))).trans (hb4.mono (by omega))
    simp only [atI_natI] at kL kD
    have hBw : w.heap.size ≤ w4.heap.size := by omega
    have b6 : Below w4.heap.size w4 w6 := ((Below.refl _ _).alloc (Nat.le_refl _) _).trans (hb5.trans hb6)
    have hl6 : (putAll s5 (fieldBits 1 2)).1.length = ((putAll s5 (fieldBits 1 2)).2 + 7) / 8 := putAll_len _ _ hs5.1
    have hn6 : (putAll s5 (fieldBits 1 2)).2 ≤ 3 := by rw [e5, putAll_snd, putAll_snd]; decide
    have hF : putAll (putAll s5 (fieldBits 1 2)) (restBits L D l) = putAll ([], 0) (fixedBits L D l) := by rw [e5, ← putAll_append, ← putAll_append]; rfl
    have hwB : ∀ q : Addr, ∀ v, w4.cell? q = some v → q.block < w4.heap.size := fun q v hq => World.block_lt_of_cell? _ _ hq
    have hcw := fun i hi => (hcs i hi)
    have kP : ∀ i, i < l.length → w4.cell? ⟨b, off + i * 3, none⟩ = some (.int .i64 (l.getD i ⟨0, 0, 0⟩).len) ∧ w4.cell? ⟨b, off + i * 3 + 1, none⟩ = some (.int .i64 (l.getD i ⟨0, 0, 0⟩).dist) ∧ w4.cell? ⟨b, off + i * 3 + 2, none⟩ = some (.int .u8 ((l.getD i ⟨0, 0, 0⟩).byte.toNat : Int)) :=
      fun i hi => ⟨cell_below (hcs i hi).1 bAll, cell_below (hcs i hi).2.1 bAll, cell_below (hcs i hi).2.2 bAll⟩
    have hb1' := hT.b1
    have hb2' := hT.b2
    have HF := Lib.hid hF
    have Hl6 := Lib.hid hl6
    clear hF hl6 hkL hkD hexp htab hcs hL hD hX hY hb1 hb2 hb3 hb4 hb5 hb6 hz1 hz2 hz3 hz4 hob1 hw5 e5 hwB hcw
    generalize putAll s5 (fieldBits 1 2) = s6 at *
    go_loopw [48] (fun u wr => ∃ (i : Nat) (st : List UInt8 × Nat), u = .int .i64 i ∧ i ≤ l.length ∧ Wr 80 wr w4.heap.size w4.heap.size st ∧ st.1.length = (st.2 + 7) / 8 ∧ st.2 ≤ 64 * i + 3 ∧ putAll st (restBits L D (l.drop i)) = putAll ([], 0) (fixedBits L D l) ∧ Below w4.heap.size w4 wr)
      (fun u _ => l.length - (intOf u).toNat)
    case atStart => exact ⟨0, s6, rfl, by omega, hw6, Hl6.out, by omega, HF.out, b6⟩
    case round =>
      obtain ⟨i, st, rfl, hi, hwr, hlen, hst, hF, hbel⟩ := hrel
      have HF := Lib.hid hF
      have Hlen := Lib.hid hlen
      clear hF hlen hw6 hn6 Hl6
      by_cases hlt : i < l.length
      · have hd := drop_at hlt
        have hm : mayB (l.getD i ⟨0, 0, 0⟩) = true := hmay (by trivial) _ (by rw [List.getD, List.getElem?_eq_getElem hlt]; exact List.getElem_mem hlt)
        obtain ⟨v0, v1, v2⟩ := kP i hlt
        have c0 := cell_below v0 hbel
        have c1 := cell_below v1 hbel
        have c2 := cell_below v2 hbel
        have Hd := Lib.hid hd
        clear hd
        generalize l.getD i ⟨0, 0, 0⟩ = p at *
        obtain ⟨pl, pd, pb⟩ := p
        simp only at c0 c1 c2
        have d : decide ((i : Int) < l.length) = true := by simp; omega
        by_cases h0 : pl = 0
        · subst h0
          have hp256 := pb.toNat_lt
          have hbo := fun o => hbel.trans ((Below.refl w4.heap.size wr).alloc hbel.size o)
          have hwo := fun o => wr_alloc hwr o
          go_wp2
          obtain ⟨o, ho⟩ : ∃ o, o = Obj.cells #[Value.int IntKind.i64 0, Value.int IntKind.i64 pd, Value.int IntKind.u8 ↑pb.toNat] 31 := ⟨_, rfl⟩
          have ho2 := heap_alloc_new wr o
          have c14 := cell_at (j := 2) (ho ▸ ho2) rfl
          rw [← ho] at c14 ⊢
          have x1 := cell_below (kX pb.toNat (by omega)) (hbo o)
          have x2 := cell_below (kL pb.toNat (by omega)) (hbo o)
          have hwo := hwo o
          have hbo := hbo o
          generalize wr.alloc o = wy at *
          have j1 := idx_at iX .u8 pb.toNat _ rfl (by omega)
          have j2 := idx_at iL .u8 pb.toNat _ rfl (by omega)
          clear iX iL iY iD
          go_still_tail 11, (by kernel_rfl)
          change wpList _ _ _ _ _ wy.drew
          have hwd : Wr 80 wy.drew w4.heap.size w4.heap.size st := hwo
          have hn2 : st.2 ≤ 109951162777 := by omega
          have hL9 : atN L pb.toNat ≤ 9 := atN_le_of hb1' _
          go_wp2_with (go_at_call 61; go_must (refine (code_at (p := w4.heap.size) (B := w4.heap.size) (n := atN L pb.toNat) (s := st) rfl (by omega) hwd (Nat.le_refl _) Hlen.out hn2).mono ?_); rintro e w7 ⟨rfl, hb7, hk7, s7, e7, hw7⟩)
          go_roundw
          case rel =>
            refine ⟨i + 1, s7, by go_num, by omega, hw7, by rw [e7]; exact putAll_len _ _ Hlen.out, by rw [e7, putAll_snd, codeBits_length]; omega, ?_, (hbo.drew).trans hb7⟩
            rw [← HF.out, Hd.out, restBits_cons, putAll_append, e7]
            unfold pieceBits
            rw [if_pos rfl]
            rfl
          case measure => simp [intOf]; omega
        · obtain ⟨n0, d0, rfl, rfl, rfl, g1, g2, g3, g4⟩ : ∃ n0 d0 : Nat, pl = n0 ∧ pd = d0 ∧ pb = 0 ∧ 3 ≤ n0 ∧ n0 ≤ 258 ∧ 1 ≤ d0 ∧ d0 ≤ 32768 := by
            rcases mayB_cases hm with ⟨h1, _⟩ | ⟨h1, h2, h3, h4, h5⟩
            · exact absurd h1 h0
            · simp only at h1 h2 h3 h4 h5
              exact ⟨pl.toNat, pd.toNat, by omega, by omega, h5, by omega, by omega, by omega, by omega⟩
          have hbits : pieceBits L D ⟨n0, d0, 0⟩ = codeFor L (lsym n0) ++ (fieldBits ((n0 : Int) - (lbase (lsym n0) : Nat)) (lbits (lsym n0)) ++ (codeFor D (dsym d0) ++ fieldBits ((d0 : Int) - (dbase (dsym d0) : Nat)) (dbits (dsym d0)))) := by
            unfold pieceBits
            rw [if_neg h0]
            simp only [Int.toNat_natCast]
          have Hbits := Lib.hid hbits
          have hS1 : lsym n0 ≤ 285 := lsym_le g2
          have hS2 := lbase_le g1 g2
          have hS3 := lbits_le hS1
          have hE1 := dsym_le d0
          have hE2 := dbase_le g3
          have hE3 := dbits_le hE1
          have hlen := length_any n0 g1 g2
          have hdis := distance_any d0 g3 g4
          clear hbits hm
          generalize lsym n0 = S at *
          generalize dsym d0 = E at *
          generalize lbase S = SB at *
          generalize lbits S = SN at *
          generalize dbase E = EB at *
          generalize dbits E = EN at *
          have d0' : ((n0 : Int) == 0) = false := by simp; omega
          have hbo := fun o => hbel.trans ((Below.refl w4.heap.size wr).alloc hbel.size o)
          have hwo := fun o => wr_alloc hwr o
          have hqo := fun o => heap_alloc_new wr o
          obtain ⟨q, hq⟩ : ∃ q, q = wr.heap.size := ⟨_, rfl⟩
          go_wp2_with (go_at_call 62; go_must (refine (hlen _).mono ?_); rintro e wz ⟨rfl, m, rfl⟩)
          obtain ⟨wz, hwz, hWz, hBz, hQz⟩ : ∃ wz, wz = (wr.alloc (.cells #[.int .i64 (n0 : Int), .int .i64 (d0 : Int), .int .u8 ((0 : UInt8).toNat : Int)] 31)).drewN m ∧ Wr 80 wz w4.heap.size w4.heap.size st ∧ Below w4.heap.size w4 wz ∧ wz.heap[wr.heap.size]? = some (.cells #[.int .i64 (n0 : Int), .int .i64 (d0 : Int), .int .u8 ((0 : UInt8).toNat : Int)] 31 (0, 0)) :=
            ⟨_, rfl, wr_drewN (hwo _) m, below_drewN (hbo _) m, heap_drewN (hqo _) m⟩
          rw [show (.int .u8 0 : Value) = .int .u8 ((0 : UInt8).toNat : Int) from rfl, ← hwz]
          clear hwz hbo hwo hqo hlen
          have x1 := cell_below (kX S (by omega)) hBz
          have x2 := cell_below (kL S (by omega)) hBz
          have j1 := idx_at iX .i64 S _ rfl (by omega)
          have j2 := idx_at iL .i64 S _ rfl (by omega)
          have j3 := idx_at iY .i64 E _ rfl (by omega)
          have j4 := idx_at iD .i64 E _ rfl (by omega)
          clear iX iL iY iD
          have hL9 : atN L S ≤ 9 := atN_le_of hb1' _
          have hD9 : atN D E ≤ 9 := atN_le_of hb2' _
          go_still_tail 9, (by kernel_rfl)
          change wpList _ _ _ _ _ wz.drew
          have hWd : Wr 80 wz.drew w4.heap.size w4.heap.size st := hWz
          have hQd : wz.drew.heap[wr.heap.size]? = some (.cells #[.int .i64 (n0 : Int), .int .i64 (d0 : Int), .int .u8 ((0 : UInt8).toNat : Int)] 31 (0, 0)) := hQz
          have hn2 : st.2 ≤ 109951162777 := by omega
          clear c0 c1 c2
          go_wp2_with (first
            | (go_at_call 61; go_must (refine (code_at (p := w4.heap.size) (B := w4.heap.size) (n := atN L S) (s := st) rfl (by omega) hWd (Nat.le_refl _) Hlen.out hn2).mono ?_); rintro e w7 ⟨rfl, hb7, hk7, s7, e7, hw7⟩
               have q7 := hk7 _ _ hQd; have c70 := cell_at (j := 0) q7 rfl; have c71 := cell_at (j := 1) q7 rfl
               have l7 : s7.1.length = (s7.2 + 7) / 8 ∧ s7.2 ≤ st.2 + 9 := by rw [e7]; exact ⟨putAll_len _ _ Hlen.out, by rw [putAll_snd, codeBits_length]; omega⟩)
            | (go_at_call 54; go_must (refine (field_at (p := w4.heap.size) (B := w4.heap.size) (n := SN) (s := s7) rfl (by omega) hw7 (Nat.le_refl _) l7.1 (by omega)).mono ?_); rintro e w8 ⟨rfl, hb8, hk8, s8, e8, hw8⟩
               have q8 := hk8 _ _ q7; have c80 := cell_at (j := 0) q8 rfl; have c81 := cell_at (j := 1) q8 rfl
               have l8 : s8.1.length = (s8.2 + 7) / 8 ∧ s8.2 ≤ st.2 + 15 := by rw [e8]; exact ⟨putAll_len _ _ l7.1, by rw [putAll_snd, fieldBits_length]; omega⟩)
            | (go_at_call 63; go_must (refine (hdis _).mono ?_); rintro e wz' ⟨rfl, m', rfl⟩))
          clear hdis
          have hWe : Wr 80 (w8.drewN m') w4.heap.size w4.heap.size s8 := hw8
          have hBe : Below w4.heap.size w4 (w8.drewN m') := below_drewN ((hBz.drew.trans hb7).trans hb8) m'
          have hQe : (w8.drewN m').heap[wr.heap.size]? = some (.cells #[.int .i64 (n0 : Int), .int .i64 (d0 : Int), .int .u8 ((0 : UInt8).toNat : Int)] 31 (0, 0)) := q8
          have y1 := cell_below (kY E (by omega)) hBe
          have y2 := cell_below (kD E (by omega)) hBe
          generalize w8.drewN m' = we at *
          go_still_tail 9, (by kernel_rfl)
          change wpList _ _ _ _ _ we.drew
          have hWf : Wr 80 we.drew w4.heap.size w4.heap.size s8 := hWe
          have hQf : we.drew.heap[wr.heap.size]? = some (.cells #[.int .i64 (n0 : Int), .int .i64 (d0 : Int), .int .u8 ((0 : UInt8).toNat : Int)] 31 (0, 0)) := hQe
          go_wp2_with (first
            | (go_at_call 61; go_must (refine (code_at (p := w4.heap.size) (B := w4.heap.size) (n := atN D E) (s := s8) rfl (by omega) hWf (Nat.le_refl _) l8.1 (by omega)).mono ?_); rintro e w9 ⟨rfl, hb9, hk9, s9, e9, hw9⟩
               have q9 := hk9 _ _ hQf; have c90 := cell_at (j := 0) q9 rfl; have c91 := cell_at (j := 1) q9 rfl
               have l9 : s9.1.length = (s9.2 + 7) / 8 ∧ s9.2 ≤ st.2 + 24 := by rw [e9]; exact ⟨putAll_len _ _ l8.1, by rw [putAll_snd, codeBits_length]; omega⟩)
            | (go_at_call 54; go_must (refine (field_at (p := w4.heap.size) (B := w4.heap.size) (n := EN) (s := s9) rfl (by omega) hw9 (Nat.le_refl _) l9.1 (by omega)).mono ?_); rintro e wA ⟨rfl, hbA, hkA, sA, eA, hwA⟩))
          go_roundw
          case rel =>
            refine ⟨i + 1, sA, by go_num, by omega, hwA, by rw [eA]; exact putAll_len _ _ l9.1, by rw [eA, putAll_snd, fieldBits_length]; omega, ?_, ((hBe.drew).trans hb9).trans hbA⟩
            rw [← HF.out, Hd.out, restBits_cons, putAll_append, eA, e9, e8, e7, Hbits.out, putAll_append, putAll_append, putAll_append]
            rfl
          case measure => simp [intOf]; omega
      · have hil : i = l.length := by omega
        subst hil
        rw [List.drop_length] at HF
        have hX := cell_below (kX 256 (by omega)) hbel
        have hL := cell_below (kL 256 (by omega)) hbel
        have j1 := idx_at iX .i64 256 256 rfl (by omega)
        have j2 := idx_at iL .i64 256 256 rfl (by omega)
        have hL9 : atN L 256 ≤ 9 := atN_le_of hb1' _
        clear iX iL iY iD
        go_wp2
        go_still_tail 7, (by kernel_rfl)
        change wpList _ _ _ _ _ wr.drew
        have hWd : Wr 80 wr.drew w4.heap.size w4.heap.size st := hwr
        go_wp2_with (go_at_call 61; go_must (refine (code_at (p := w4.heap.size) (B := w4.heap.size) (n := atN L 256) (s := st) rfl (by omega) hWd (Nat.le_refl _) Hlen.out (by omega)).mono ?_); rintro e w7 ⟨rfl, hb7, hk7, s7, e7, hw7⟩
                     obtain ⟨aZ, cZ, hZ0, hZ⟩ := hw7; have z0 := cell_at (j := 0) hZ0 rfl; have z1 := cell_at (j := 1) hZ0 rfl; have E7 := Lib.hid e7; clear e7)
        go_ret2
        have e : s7 = putAll ([], 0) (fixedBits L D l) := by rw [E7.out, ← HF.out]; rfl
        rw [← e]
        exact ⟨aZ, s7.1.length, cZ, rfl, own_mono hZ hBw, bAll.trans ((hbel.drew.trans hb7).mono hBw)⟩
  · rw [if_neg hen]
    have d : ((en : Int) != 0) = true := by simp; omega
    go_enter Try.func34, Try.ntmps34
    go_wp2_with (go_at_call 33; go_must (refine hexp.mono ?_); rintro e w1 ⟨a1, m1, c1, rfl, hob1, hb1⟩)
    go_ret2
    exact ⟨none, 0, 0, rfl, ob_nil _ _, hb1⟩
end Go.Proofs.Ytpfalaghggjbjaa
