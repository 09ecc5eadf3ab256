/-
  The walks of inflate's reader's copied, coded.
  Conditions: as the reader's; codes that may be, which nobody writes meanwhile.
-/
import Derived.Test.YtpfalaghggjbjaaYD
import Derived.Great.BuildSlice
namespace Go.Proofs.Ytpfalaghggjbjaa
open Go.RowKit

/-- The bases and the bits of the lengths, side by side. -/
def tabL : List Nat := [3, 0, 4, 0, 5, 0, 6, 0, 7, 0, 8, 0, 9, 0, 10, 0, 11, 1, 13, 1, 15, 1, 17, 1, 19, 2, 23, 2, 27, 2, 31, 2, 35, 3, 43, 3, 51, 3, 59, 3, 67, 4, 83, 4, 99, 4, 115, 4, 131, 5, 163, 5, 195, 5, 227, 5, 258, 0]
theorem tabL_get : ∀ j : Fin 29, atN tabL (j.val * 2) = lbase (257 + j.val) ∧ atN tabL (j.val * 2 + 1) = lbits (257 + j.val) := by decide
/-- A code that may be, which nobody writes while the reader reads. -/
structure Code (p : Nat) (w : World) (a : Option Addr) (aD : Option Addr) (nD cD : Nat) (D : List Nat) : Prop where
  rd : ∀ w' a', Stp p w a w' a' → RI w' aD nD cD (natI D)
  len : D.length ≤ 320
  b15 : ∀ x ∈ D, x ≤ 15
  ok : (checkP D).2 = 0
theorem Code.step {p : Nat} {w w' : World} {a a' aD : Option Addr} {nD cD : Nat} {D : List Nat} (h : Code p w a aD nD cD D) (hs : Stp p w a w' a') : Code p w' a' aD nD cD D :=
  ⟨fun w2 a2 h2 => h.rd w2 a2 (hs.trans h2), h.len, h.b15, h.ok⟩
theorem Code.ri {p : Nat} {w : World} {a aD : Option Addr} {nD cD : Nat} {D : List Nat} (h : Code p w a aD nD cD D) : RI w aD nD cD (natI D) := h.rd w a (Stp.refl _ _ _)

theorem back_val {d ex y : Nat} (h4 : 4 ≤ d) (h29 : d ≤ 29) (hex : ex = d / 2 - 1) (hy : y < 2 ^ ex) :
    IntKind.i64.wrap (IntKind.i64.wrap (1 + IntKind.i64.wrap (IntKind.i64.wrap (2 + (d : Int).tmod 2) * 2 ^ ex)) + y) = ((dbase d + y : Nat) : Int) ∧ 1 ≤ dbase d + y ∧ dbase d + y ≤ 65536 := by
  have hp : 2 ^ ex ≤ 2 ^ 13 := Nat.pow_le_pow_right (by omega) (by omega)
  have ht : (d : Int).tmod 2 = ((d % 2 : Nat) : Int) := by rw [Int.tmod_eq_emod_of_nonneg (by omega)]; omega
  have e1 : IntKind.i64.wrap (2 + (d : Int).tmod 2) = ((2 + d % 2 : Nat) : Int) := by rw [ht, IntWalk.i64_in _ (by omega)]; omega
  have hm : (2 + d % 2) * 2 ^ ex ≤ 3 * 8192 := Nat.mul_le_mul (by omega) (by omega)
  have e2 : (((2 + d % 2 : Nat) : Int) * 2 ^ ex) = (((2 + d % 2) * 2 ^ ex : Nat) : Int) := by simp
  have hb : dbase d = 1 + (2 + d % 2) * 2 ^ ex := by unfold dbase; rw [if_neg (by omega), show (d - 2) / 2 = ex by omega]
  rw [e1, e2, hb]
  generalize (2 + d % 2) * 2 ^ ex = q at *
  rw [IntWalk.i64_in ((q : Nat) : Int) (by omega), IntWalk.i64_in (1 + ((q : Nat) : Int)) (by omega), IntWalk.i64_in _ (by omega)]
  omega
section
variable {p B : Nat} {a0 : Option Addr} {cap : Nat} {b : List UInt8} {m : Nat} {w : World} {t : Nat} {o : List UInt8} {er : Nat} {a : Option Addr}
theorem symbol_code {aD : Option Addr} {nD cD : Nat} {D : List Nat} (h : Rr p B a0 cap b m w t o 0 a) (hD : Code p w a aD nD cD D) :
    Calls Try.prog 100 #[.pointer (some ⟨p, 0, none⟩), .slice aD nD cD] w (FieldPost p B a0 cap b m w a (symM D b m t o)) :=
  symbol_live aD nD cD D h hD.len hD.b15 hD.ok hD.ri

theorem sym_t {D : List Nat} {b : List UInt8} {m t : Nat} {o : List UInt8} {s t' : Nat} {o' : List UInt8} (h : symM D b m t o = .ok s t' o') : o' = o ∧ s < D.length ∧ t < t' := by
  have key : ∀ (f i x t : Nat), symGo D f i x b m t o = .ok s t' o' → o' = o ∧ s < D.length ∧ t < t' := by
    intro f
    induction f with
    | zero => intro i x t h; cases h
    | succ f ih =>
      intro i x t h
      obtain ⟨y, t1, o1, e1, e2⟩ := bnd_inv h
      have hb : t1 = t + 1 ∧ o1 = o := by
        unfold bitM at e1
        split at e1
        · cases e1; exact ⟨rfl, rfl⟩
        · cases e1
      obtain ⟨rfl, rfl⟩ := hb
      cases hs : symOf D i (2 * x + y) with
      | none =>
        rw [hs] at e2
        have := ih _ _ _ e2
        exact ⟨this.1, this.2.1, by omega⟩
      | some q =>
        rw [hs] at e2
        cases e2
        unfold symOf at hs
        split at hs
        · have := List.mem_of_getElem? hs
          unfold posOf at this
          simp at this
          exact ⟨rfl, this.1, by omega⟩
        · cases hs
  exact key _ _ _ _ h

set_option maxRecDepth 100000 in
set_option maxHeartbeats 4000000 in
theorem copied_live {aD : Option Addr} {nD cD : Nat} {D : List Nat} {s : Nat} (h : Rr p B a0 cap b m w t o 0 a) (hD : Code p w a aD nD cD D) (h1 : 257 ≤ s) (h2 : s ≤ 319) :
    Calls Try.prog 101 #[.pointer (some ⟨p, 0, none⟩), .int .i64 (s : Int), .slice aD nD cD] w (UnitPost p B a0 cap b m w a (pieceM D s b m t o)) := by
  obtain ⟨j, rfl⟩ : ∃ j, s = 257 + j := ⟨s - 257, by omega⟩
  have hi58 : (Try.prog.info? 147).map (·.size) = some (aI (natI tabL)).size := by kernel_rfl
  have hs58 : 58 = (aI (natI tabL)).size := by kernel_rfl
  have Hi58 := Lib.hid hi58
  have Hs58 := Lib.hid hs58
  have e257 : (257 + (j : Int) - 257) = j := by omega
  clear hi58 hs58
  by_cases hs : 285 < 257 + j
  · have e : pieceM D (257 + j) b m t o = .no 5 := by unfold pieceM; rw [if_pos hs]; rfl
    rw [e]
    have d1 : decide ((29 : Int) ≤ j) = true := by simp; omega
    go_enter Try.func101, Try.ntmps101
    go_wp2_with (first
      | (refine wpList_buildTo rfl 147 _ rfl _ rfl (aI (natI tabL)) (by kernel_rfl) ?_)
      | (refine wpList_store_rowTo rfl 147 _ _ rfl rfl w.heap.size (aI (natI tabL)) rfl rfl 147 _ (heap_alloc_new _ _) Hi58.out Hs58.out (aI_one _) ?_
         refine (fun (k : ∀ wT, Below w.heap.size w wT → wT.heap[w.heap.size]? = some (.cells (aI (natI tabL)) 147 (0, 0)) → wpList _ _ _ _ _ wT) => k _ (below_setRow1 ((Below.refl _ _).alloc (Nat.le_refl _) _) (Nat.le_refl _) _) (setRow_heap _ _ _ _ _ _ (heap_alloc_new _ _))) ?_
         intro wT hbT hT)
      | (go_at_call 88; go_must (refine (fails_live 5 (h.new hbT)).mono ?_); rintro e w4 ⟨rfl, hS4, hR4⟩))
    go_end0
    exact ⟨a, _, _, rfl, (Stp.of_below hbT).trans hS4, hR4⟩
  · have hpm : pieceM D (257 + j) b m t o = (bnd (fieldM (lbits (257 + j))) fun x => bnd (symM D) fun d => if 29 < d then failM 5 else bnd (fieldM (dbits d)) fun y => bnd outM fun o => if o.length < dbase d + y then failM 5 else copyM (dbase d + y) (lbase (257 + j) + x)) b m t o := by unfold pieceM; rw [if_neg hs]
    rw [hpm]
    clear hpm
    have hj := tabL_get ⟨j, by omega⟩
    simp only at hj
    have hlb := lbits_le (s := 257 + j) (by omega)
    have hlB : lbase (257 + j) ≤ 258 := by
      have : ∀ j : Fin 29, lbase (257 + j.val) ≤ 258 := by decide
      exact this ⟨j, by omega⟩
    have d1 : decide ((29 : Int) ≤ j) = false := by simp; omega
    have hj28 : j ≤ 28 := by omega
    generalize lbits (257 + j) = lb at *
    generalize lbase (257 + j) = lB at *
    obtain ⟨hjB, hjb⟩ := hj
    obtain ⟨σ, hσ⟩ : ∃ σ, σ = (bnd (fieldM lb) fun x => bnd (symM D) fun d => if 29 < d then failM 5 else bnd (fieldM (dbits d)) fun y => bnd outM fun o => if o.length < dbase d + y then failM 5 else copyM (dbase d + y) (lB + x)) b m t o := ⟨_, rfl⟩
    rw [← hσ]
    have Hσ := Lib.hid hσ
    have HjB := Lib.hid hjB
    have Hjb := Lib.hid hjb
    clear hσ hjB hjb hs h1 h2
    go_enter Try.func101, Try.ntmps101
    go_wp2_with (first
      | (refine wpList_buildTo rfl 147 _ rfl _ rfl (aI (natI tabL)) (by kernel_rfl) ?_)
      | (refine wpList_store_rowTo rfl 147 _ _ rfl rfl w.heap.size (aI (natI tabL)) rfl rfl 147 _ (heap_alloc_new _ _) Hi58.out Hs58.out (aI_one _) ?_
         refine (fun (k : ∀ wT, Below w.heap.size w wT → wT.heap[w.heap.size]? = some (.cells (aI (natI tabL)) 147 (0, 0)) → wpList _ _ _ _ _ wT) => k _ (below_setRow1 ((Below.refl _ _).alloc (Nat.le_refl _) _) (Nat.le_refl _) _) (setRow_heap _ _ _ _ _ _ (heap_alloc_new _ _))) ?_
         intro wT hbT hT))
    have cT0 := arr_cellN hT (j := j * 2) (by show j * 2 < 58; omega)
    have cT1 := arr_cellN hT (j := j * 2 + 1) (by show j * 2 + 1 < 58; omega)
    rw [HjB.out] at cT0
    rw [Hjb.out] at cT1
    have hRT := h.new hbT
    have hST : Stp p w a wT a := Stp.of_below hbT
    have hRd := hRT.drew
    have hSd := hST.drew
    have hx1 := field_live lb hRd (by omega)
    have hqp : w.heap.size ≠ p := fun e => by have := h.lt; omega
    have hqa : blk a ≠ some w.heap.size := fun e => by have := (h.own _ e).2; omega
    have ew : IntKind.i64.wrap (j : Int) = j := IntWalk.i64_in _ (by omega)
    have ejt : ((j : Int)).toNat = j := Int.toNat_natCast j
    have hj0 : (0 : Int) ≤ (j : Int) := by omega
    have hj1 : (j : Int) < 29 := by omega
    cases hf1 : fieldM lb b m t o with
    | no e =>
      have he := errs_field lb hf1
      rw [hf1] at hx1
      have hσ := Hσ.out
      rw [bnd_no hf1] at hσ
      subst hσ
      clear Hσ hf1
      go_region_held3 (fun w' => w'.cell? ⟨w.heap.size, j * 2, none⟩ = some (.int .i64 (lB : Int)) ∧ w'.cell? ⟨w.heap.size, j * 2 + 1, none⟩ = some (.int .i64 (lb : Int)))
        (first | go_keep | exact ⟨cT01, cT11⟩)
        (first | (go_at_call 84; go_must (refine hx1.mono ?_); rintro e1 w1 ⟨a1, t1, o1, rfl, hS1, hR1⟩
                  have cT01 := hS1.mod.cell (w := wT.drew) cT0 (fun e => e.elim (fun e => hqp e) (fun e => hqa e))
                  have cT11 := hS1.mod.cell (w := wT.drew) cT1 (fun e => e.elim (fun e => hqp e) (fun e => hqa e))))
      have d2 : ((e : Int) != 0) = true := by simp; omega
      clear ew ejt
      obtain ⟨cc, c01, c11, c21, c31, c41, f11, f21, f41, -⟩ := hR1.cells
      go_wp2_with (go_at_call 100; go_must (refine (symbol_dead _ hR1 he.1).mono ?_); rintro e2 w2 ⟨rfl, rfl⟩)
      go_end0
      exact ⟨a1, t1, o1, rfl, hSd.trans hS1, hR1⟩
    | ok x t1 o1 =>
      have hx := field_lt hf1
      obtain ⟨rfl, rfl⟩ := fieldM_t hf1
      rw [hf1] at hx1
      have hσ := Hσ.out
      rw [bnd_ok hf1] at hσ
      have Hσ := Lib.hid hσ
      clear hσ hf1
      have hx64 : x ≤ 64 := by have : 2 ^ lb ≤ 2 ^ 6 := Nat.pow_le_pow_right (by omega) hlb; omega
      go_region_held3 (fun w' => w'.cell? ⟨w.heap.size, j * 2, none⟩ = some (.int .i64 (lB : Int)) ∧ w'.cell? ⟨w.heap.size, j * 2 + 1, none⟩ = some (.int .i64 (lb : Int)))
        (first | go_keep | exact ⟨cT01, cT11⟩)
        (first | (go_at_call 84; go_must (refine hx1.mono ?_); rintro e w1 ⟨a1, rfl, hS1, hR1⟩
                  have cT01 := hS1.mod.cell (w := wT.drew) cT0 (fun e => e.elim (fun e => hqp e) (fun e => hqa e))
                  have cT11 := hS1.mod.cell (w := wT.drew) cT1 (fun e => e.elim (fun e => hqp e) (fun e => hqa e))))
      have ews : IntKind.i64.wrap ((lB : Int) + x) = ((lB + x : Nat) : Int) := by rw [IntWalk.i64_in _ (by omega)]; omega
      rw [ews]
      have hS := hSd.trans hS1
      have hD1 := hD.step hS
      have hx2 := symbol_code hR1 hD1
      clear ew ejt cT0 cT1 cT01 cT11 hx1 hST hSd hS1 hRT hRd hqp hqa ews hbT hT
      obtain ⟨n, hn⟩ : ∃ n, n = lB + x := ⟨_, rfl⟩
      have hn9 : n ≤ 400 := by omega
      rw [← hn]
      rw [← hn] at Hσ
      clear hn hD
      cases hf2 : symM D b m (t + lb) o1 with
      | no e =>
        have he := errs_sym D hf2
        rw [hf2] at hx2
        have hσ := Hσ.out
        rw [bnd_no hf2] at hσ
        subst hσ
        clear Hσ hf2
        have d2 : ((e : Int) != 0) = true := by simp; omega
        go_wp2_with (go_at_call 100; go_must (refine hx2.mono ?_); rintro e2 w2 ⟨a2, t2, o2, rfl, hS2, hR2⟩
                     obtain ⟨cc, c01, c11, c21, c31, c41, f11, f21, f41, -⟩ := hR2.cells)
        go_end0
        exact ⟨a2, t2, o2, rfl, hS.trans hS2, hR2⟩
      | ok d t2 o2 =>
        obtain ⟨rfl, hd, -⟩ := sym_t hf2
        have hd320 := hD1.len
        rw [hf2] at hx2
        have hσ := Hσ.out
        rw [bnd_ok hf2] at hσ
        clear hf2 Hσ
        by_cases hd29 : 29 < d
        · rw [if_pos hd29] at hσ
          subst hσ
          have d3 : decide ((30 : Int) ≤ d) = true := by simp; omega
          go_wp2_with (first
            | (go_at_call 100; go_must (refine hx2.mono ?_); rintro e2 w2 ⟨a2, rfl, hS2, hR2⟩
               obtain ⟨cc, c01, c11, c21, c31, c41, f11, f21, f41, -⟩ := hR2.cells)
            | (go_at_call 88; go_must (refine (fails_live 5 hR2).mono ?_); rintro e w4 ⟨rfl, hS4, hR4⟩))
          go_end0
          exact ⟨a2, _, _, rfl, (hS.trans hS2).trans hS4, hR4⟩
        · rw [if_neg hd29] at hσ
          have Hσ := Lib.hid hσ
          clear hσ
          have d3 : decide ((30 : Int) ≤ d) = false := by simp; omega
          have hd29 : d ≤ 29 := by omega
          go_upto_if 75 with (first
            | (go_at_call 100; go_must (refine hx2.mono ?_); rintro e2 w2 ⟨a2, rfl, hS2, hR2⟩
               obtain ⟨cc, c01, c11, c21, c31, c41, f11, f21, f41, -⟩ := hR2.cells))
          have hS := hS.trans hS2
          go_cut [9] from 10 (fun u wx => ∃ (z : Int) (aq : Option Addr) (tq : Nat) (oq : List UInt8) (eq : Nat), u = .int .i64 z ∧ Stp p w a wx aq ∧ Rr p B a0 cap b m wx tq oq eq aq ∧
              ((eq = 0 ∧ ∃ bk : Nat, z = bk ∧ 1 ≤ bk ∧ bk ≤ 65536 ∧ (bnd outM fun o => if o.length < bk then failM 5 else copyM bk n) b m tq oq = σ) ∨ (eq ≠ 0 ∧ σ = .no eq)))
          case first =>
            by_cases hd4 : d < 4
            · have d4 : decide ((4 : Int) ≤ d) = false := by simp; omega
              have hσ := Hσ.out
              have e0 : dbits d = 0 := by unfold dbits; rw [if_pos hd4]
              have e1 : dbase d = 1 + d := by unfold dbase; rw [if_pos hd4]; omega
              rw [e0, e1] at hσ
              have HF := Lib.hid hσ
              clear Hσ e0 e1 hσ
              go_wp2
              go_meet
              exact ⟨_, a2, _, _, 0, rfl, hS, hR2, .inl ⟨rfl, 1 + d, by omega, by omega, by omega, HF.out.symm⟩⟩
            · have d4 : decide ((4 : Int) ≤ d) = true := by simp; omega
              obtain ⟨ex, hex⟩ : ∃ ex, ex = d / 2 - 1 := ⟨_, rfl⟩
              have e0 : dbits d = ex := by unfold dbits; rw [if_neg hd4]; omega
              have hσ := Hσ.out
              rw [e0] at hσ
              have he13 : ex ≤ 13 := by omega
              have hexi : (d : Int) / 2 - 1 = (ex : Int) := by omega
              have hx3 := field_live ex hR2.drew (by omega)
              clear Hσ
              have Hex := Lib.hid hex
              clear hex e0
              cases hf3 : fieldM ex b m t2 o2 with
              | no e =>
                have he := errs_field ex hf3
                rw [hf3] at hx3
                rw [bnd_no hf3] at hσ
                have Hσ := Lib.hid hσ
                clear hσ hf3
                go_wp2
                go_region_held3 (fun w' => True) (trivial)
                  (first | (go_at_call 84; go_must (refine hx3.mono ?_); rintro e1 w3 ⟨a3, t3, o3, rfl, hS3, hR3⟩))
                go_wp2
                go_meet
                exact ⟨_, a3, t3, o3, e, rfl, (hS.drew).trans hS3, hR3, .inr ⟨he.1, Hσ.out⟩⟩
              | ok y t3 o3 =>
                have hy := field_lt hf3
                obtain ⟨rfl, rfl⟩ := fieldM_t hf3
                rw [hf3] at hx3
                rw [bnd_ok hf3] at hσ
                have Hσ := Lib.hid hσ
                clear hσ hf3
                go_wp2
                go_region_held3 (fun w' => True) (trivial)
                  (first | (go_at_call 84; go_must (refine hx3.mono ?_); rintro e1 w3 ⟨a3, rfl, hS3, hR3⟩))
                have hbv := back_val (by omega) hd29 Hex.out hy
                rw [hbv.1]
                go_wp2
                go_meet
                exact ⟨_, a3, _, _, 0, rfl, (hS.drew).trans hS3, hR3, .inl ⟨rfl, dbase d + y, by go_num, hbv.2.1, hbv.2.2, Hσ.out.symm⟩⟩
          case rest =>
            obtain ⟨z, aq, tq, oq, eq, rfl, hSq, hRq, hst⟩ := hcut
            obtain ⟨cc, c01, c11, c21, c31, c41, f11, f21, f41, hown⟩ := hRq.cells
            rcases hst with ⟨rfl, bk, rfl, hb1, hb2, hF⟩ | ⟨hne, hF⟩
            · have hF' : (if oq.length < bk then failM 5 else copyM bk n) b m tq oq = σ := hF
              by_cases hlb : oq.length < bk
              · rw [if_pos hlb] at hF'
                subst hF'
                clear hF Hσ
                have d5 : decide (oq.length < bk) = true := by simpa using hlb
                go_wp2_with (go_at_call 88; go_must (refine (fails_live 5 hRq).mono ?_); rintro e w4 ⟨rfl, hS4, hR4⟩
                             obtain ⟨cc5, c05, c15, c25, c35, c45, f15, f25, f45, -⟩ := hR4.cells)
                go_loopw [11] (fun u wr => u = .int .i64 0 ∧ wr = w4) (fun _ _ => 0)
                case atStart => exact ⟨rfl, rfl⟩
                case round =>
                  obtain ⟨rfl, rfl⟩ := hrel
                  by_cases h0 : 0 < n
                  · have d0 : decide (0 < n) = true := by simpa using h0
                    go_wp2
                    go_end0
                    exact ⟨aq, _, _, rfl, hSq.trans hS4, hR4⟩
                  · have d0 : decide (0 < n) = false := by simpa using h0
                    go_wp2
                    go_end0
                    exact ⟨aq, _, _, rfl, hSq.trans hS4, hR4⟩
              · rw [if_neg hlb] at hF'
                clear hF Hσ
                have d5 : decide (oq.length < bk) = false := by simpa using hlb
                have HF' := Lib.hid hF'
                clear hF'
                go_wp2
                clear c01 c11 c21 c31 c41 f11 f21 f41 hown
                go_loopw [11] (fun u wr => ∃ (i : Nat) (ar : Option Addr) (tr : Nat) (or : List UInt8) (er : Nat), u = .int .i64 i ∧ i ≤ n ∧ Stp p w a wr ar ∧ Rr p B a0 cap b m wr tr or er ar ∧
                    ((er = 0 ∧ bk ≤ or.length ∧ copyM bk (n - i) b m tr or = σ) ∨ (er ≠ 0 ∧ σ = .no er))) (fun u _ => n - (intOf u).toNat)
                case atStart => exact ⟨0, aq, tq, oq, 0, rfl, by omega, hSq, hRq, .inl ⟨rfl, by omega, HF'.out⟩⟩
                case round =>
                  obtain ⟨i, ar, tr, or, er, rfl, hi, hS, hR, ⟨rfl, hbk, hF⟩ | ⟨hne, hF⟩⟩ := hrel
                  · obtain ⟨cc, c01, c11, c21, c31, c41, f11, f21, f41, hown⟩ := hR.cells
                    by_cases hin : i < n
                    · have d6 : decide (i < n) = true := by simpa using hin
                      have hcp : copyM bk (n - i) b m tr or = bnd (tellM (or.getD (or.length - bk) 0)) (fun _ => copyM bk (n - (i + 1))) b m tr or := by
                        obtain ⟨d, hd⟩ : ∃ d, n - i = d + 1 := ⟨n - i - 1, by omega⟩
                        rw [hd, show n - (i + 1) = d by omega]; rfl
                      rw [hcp] at hF
                      have HF := Lib.hid hF
                      clear hF hcp
                      obtain ⟨b8, off, hidx, hc⟩ := Rd.open hown.rb 22 5 Try.underlying22 (by kernel_rfl)
                      have e1 : wr.cell? ⟨b8, off + (or.length - bk), none⟩ = some (.int .u8 (at8 or (or.length - bk))) := by rw [hc (or.length - bk) (by simp; omega), cB_get]
                      have hml := hR.ml
                      have hol := hR.ol
                      have ews : IntKind.i64.wrap ((or.length : Int) - bk) = ((or.length - bk : Nat) : Int) := by rw [IntWalk.i64_in _ (by omega)]; omega
                      have j1 := idx_in hidx .i64 (or.length - bk) ((or.length - bk : Nat) : Int) rfl (by omega)
                      clear hc hidx
                      go_wp2
                      go_still_tail 14, (by kernel_rfl)
                      change wpList _ _ _ _ _ wr.drew
                      clear c01 c11 c21 c31 c41 f11 f21 f41 e1 j1 ews
                      by_cases hf : m ≤ or.length
                      · have hσ := HF.out
                        have e2 : tellM (or.getD (or.length - bk) 0) b m tr or = .no 3 := by unfold tellM; rw [if_pos hf]
                        rw [bnd_no e2] at hσ
                        have HF2 := Lib.hid hσ
                        clear hσ e2
                        go_wp2_with (go_at_call 99; go_must (refine (tell_at_full (or.getD (or.length - bk) 0) _ rfl hR.drew hf).mono ?_); rintro e1 w5 ⟨a5, t5, o5, rfl, hS5, hR5⟩)
                        go_roundw
                        case rel => exact ⟨i + 1, a5, t5, o5, 3, by go_num, by omega, hS.drew.trans hS5, hR5, .inr ⟨by decide, HF2.out.symm⟩⟩
                        case measure => simp [intOf]; omega
                      · have hσ := HF.out
                        have e2 : tellM (or.getD (or.length - bk) 0) b m tr or = .ok () tr (or ++ [or.getD (or.length - bk) 0]) := by unfold tellM; rw [if_neg hf]
                        rw [bnd_ok e2] at hσ
                        have HF2 := Lib.hid hσ
                        have hf : or.length < m := by omega
                        clear hσ e2
                        go_wp2_with (go_at_call 99; go_must (refine (tell_at_ok (or.getD (or.length - bk) 0) _ rfl hR.drew hf).mono ?_); rintro e1 w5 ⟨a5, rfl, hS5, hR5⟩)
                        go_roundw
                        case rel => exact ⟨i + 1, a5, _, _, 0, by go_num, by omega, hS.drew.trans hS5, hR5, .inl ⟨rfl, by simp; omega, HF2.out⟩⟩
                        case measure => simp [intOf]; omega
                    · have hin : i = n := by omega
                      subst hin
                      go_wp2
                      go_end0
                      rw [Nat.sub_self] at hF
                      rw [← hF]
                      exact ⟨ar, rfl, hS, hR⟩
                  · obtain ⟨cc, c01, c11, c21, c31, c41, f11, f21, f41, hown⟩ := hR.cells
                    have d2 : ((er : Int) == 0) = false := by simp; omega
                    have HF := Lib.hid hF
                    clear hF
                    by_cases hin : i < n
                    · have d1 : decide (i < n) = true := by simpa using hin
                      go_wp2
                      go_end0
                      rw [HF.out]
                      exact ⟨ar, tr, or, rfl, hS, hR⟩
                    · have d1 : decide (i < n) = false := by simpa using hin
                      go_wp2
                      go_end0
                      rw [HF.out]
                      exact ⟨ar, tr, or, rfl, hS, hR⟩
            · have HF := Lib.hid hF
              have d4 : ((eq : Int) == 0) = false := by simp; omega
              clear hF Hσ
              go_wp2
              go_loopw [11] (fun u wr => u = .int .i64 0 ∧ wr = wc) (fun _ _ => 0)
              case atStart => exact ⟨rfl, rfl⟩
              case round =>
                obtain ⟨rfl, rfl⟩ := hrel
                by_cases h0 : 0 < n
                · have d0 : decide (0 < n) = true := by simpa using h0
                  go_wp2
                  go_end0
                  rw [HF.out]
                  exact ⟨aq, _, _, rfl, hSq, hRq⟩
                · have d0 : decide (0 < n) = false := by simpa using h0
                  go_wp2
                  go_end0
                  rw [HF.out]
                  exact ⟨aq, _, _, rfl, hSq, hRq⟩
end
end Go.Proofs.Ytpfalaghggjbjaa
