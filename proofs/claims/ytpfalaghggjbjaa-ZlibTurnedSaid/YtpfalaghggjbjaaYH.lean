/-
  The walk of inflate's reader's lengths.
  Conditions: as the reader's; a code of at most 19 lengths that may be; at most 316 lengths are read.
-/
import Derived.Test.YtpfalaghggjbjaaYG
namespace Go.Proofs.Ytpfalaghggjbjaa
open Go.RowKit

theorem own_ne_own {w : World} {B B' e e' sz sz' n n' c c' g : Nat} {a a' : Option Addr} {xs ys : List Value} (h : w.ownsRow B e sz (.slice a n c) n xs) (h' : w.ownsRow B' e' sz' (.slice a' n' c') n' ys) (he : e ≠ e') (ha : blk a = some g) : blk a' ≠ some g := by
  rcases h.2 with ⟨hv, _⟩ | ⟨g1, cap', cur, hv, _, hh, _⟩
  · simp only [Value.slice.injEq] at hv; rw [hv.1] at ha; cases ha
  · simp only [Value.slice.injEq] at hv
    rw [hv.1] at ha
    cases ha
    exact own_ne_cells h' hh (fun e => he e.symm)
/-- What lengths has of its own: the boxes of the reader and of the number; the numbers so far. -/
structure LN (w : World) (H p n : Nat) (al : Option Addr) (cl : Nat) (l : List Nat) : Prop where
  hr : w.heap[H]? = some (.cells #[.pointer (some ⟨p, 0, none⟩)] 84 (0, 0))
  hn : w.heap[H + 1]? = some (.cells #[.int .i64 (n : Int)] 3 (0, 0))
  hl : w.heap[H + 1 + 1]? = some (.cells #[.slice al l.length cl] 53 (0, 0))
  ho : OI w (H + 3) al l.length cl (natI l)
  lt : p < H
  z : H + 3 ≤ w.heap.size
theorem LN.push {w w3 : World} {H p n cl c' : Nat} {al a' : Option Addr} {l : List Nat} {tmp : Obj} (h : LN w H p n al cl l) (x : Nat) (hg : Grew (w.alloc tmp) w3 al a') (ho : OI w3 (H + 3) a' (l.length + 1) c' (natI l ++ [(x : Int)])) :
    w3.heap[H + 1 + 1]? = some (.cells #[.slice al l.length cl] 53 (0, 0)) ∧ (w3.setCell ⟨H + 1 + 1, 0, none⟩ (.slice a' (l.length + 1) c')).heap[H + 1 + 1]? = some (.cells #[.slice a' (l ++ [x]).length c'] 53 (0, 0)) ∧
      OI (w3.setCell ⟨H + 1 + 1, 0, none⟩ (.slice a' (l.length + 1) c')) (H + 3) a' (l ++ [x]).length c' (natI (l ++ [x])) ∧ Stp (H + 1 + 1) w al (w3.setCell ⟨H + 1 + 1, 0, none⟩ (.slice a' (l.length + 1) c')) a' := by
  have h3 := heap_grew hg (heap_alloc h.hl _) (own_ne_cells h.ho h.hl (by decide))
  have e : (l ++ [x]).length = l.length + 1 := by simp
  rw [e]
  refine ⟨h3, heap_set (j := 0) h3 _, ?_, ⟨(((Mod.refl _ w).alloc _).trans hg.mod (fun _ _ h => h) (fun k _ hk => .inr hk)).setCell _ _ (fun _ => .inl rfl), ?_⟩⟩
  · rw [natI_append]
    exact oi_set ho (own_ne_cells ho h3 (by decide)) _
  · rcases hg.at_ with q | ⟨g, q, q2⟩
    · exact .inl q
    · exact .inr ⟨g, q, by simp at q2; omega⟩
theorem again_fits_at {pl pn pr B n : Nat} {al : Option Addr} {cl : Nat} {l : List Nat} (x times : Nat) {X Y : Int} (hX : X = (x : Int)) (hY : Y = (times : Int)) {w : World} (hl : w.heap[pl]? = some (.cells #[.slice al l.length cl] 53 (0, 0))) (hn : w.heap[pn]? = some (.cells #[.int .i64 (n : Int)] 3 (0, 0)))
    (ho : OI w B al l.length cl (natI l)) (hB : B ≤ w.heap.size) (hfit : l.length + times ≤ n) (hn9 : n ≤ 400) :
    Calls Try.prog 112 #[.int .i64 X, .int .i64 Y, .pointer (some ⟨pl, 0, none⟩), .pointer (some ⟨pn, 0, none⟩), .pointer (some ⟨pr, 0, none⟩)] w (AgainPost pl B w al (l ++ List.replicate times x)) := by
  subst hX hY; exact again_fits x times hl hn ho hB hfit hn9
section
variable {p B : Nat} {a0 : Option Addr} {cap : Nat} {b : List UInt8} {m : Nat} {w : World} {t : Nat} {o : List UInt8} {er : Nat} {a : Option Addr}
theorem Rr.of_mod {S : Nat → Prop} {w1 : World} (h : Rr p B a0 cap b m w t o er a) (hm : Mod S w w1) (hp : ¬ S p) (ha : ∀ g, blk a = some g → ¬ S g) (hs : ∀ w2 a2, Stp p w1 a w2 a2 → RB w2 a0 b.length cap b) : Rr p B a0 cap b m w1 t o er a := by
  obtain ⟨c, h1, h2⟩ := h.cell
  exact ⟨⟨c, heap_mod hm h1 hp, own_mod h2 hm ha⟩, hs, h.bp, h.bl, h.ml, h.tl, h.ol⟩
theorem again_over_at {pl pn pr n : Nat} {al : Option Addr} {cl nl : Nat} (x : Int) (times : Nat) {Y : Int} (hY : Y = (times : Int)) (h : Rr p B a0 cap b m w t o 0 a) (hl : w.heap[pl]? = some (.cells #[.slice al nl cl] 53 (0, 0))) (hn : w.heap[pn]? = some (.cells #[.int .i64 (n : Int)] 3 (0, 0)))
    (hr : w.heap[pr]? = some (.cells #[.pointer (some ⟨p, 0, none⟩)] 84 (0, 0))) (hover : n < nl + times) (hn9 : nl ≤ 400) (ht : times ≤ 400) :
    Calls Try.prog 112 #[.int .i64 x, .int .i64 Y, .pointer (some ⟨pl, 0, none⟩), .pointer (some ⟨pn, 0, none⟩), .pointer (some ⟨pr, 0, none⟩)] w (RNo p B a0 cap b m w a 5 (.tuple #[])) := by
  subst hY; exact again_over x times h hl hn hr hover hn9 ht
theorem LN.step {w1 : World} {a1 : Option Addr} {H n cl : Nat} {al : Option Addr} {l : List Nat} (h : LN w H p n al cl l) (hR : Rr p B a0 cap b m w t o er a) (hS : Stp p w a w1 a1) : LN w1 H p n al cl l := by
  obtain ⟨c, h1, h2⟩ := hR.cell
  have hlt := h.lt
  have ne : ∀ {q e : Nat} {C : Array Value}, w.heap[q]? = some (.cells C e (0, 0)) → e ≠ 5 → q ≠ p → ¬ (q = p ∨ blk a = some q) := fun hq he hqp hh => hh.elim hqp (fun hb => own_ne_cells h2 hq (fun x => he x.symm) hb)
  refine ⟨heap_mod hS.mod h.hr (ne h.hr (by decide) (by omega)), heap_mod hS.mod h.hn (ne h.hn (by decide) (by omega)), heap_mod hS.mod h.hl (ne h.hl (by decide) (by omega)), own_mod h.ho hS.mod (fun g hg hh => ?_), hlt, Nat.le_trans h.z hS.mod.size⟩
  rcases hh with rfl | hh
  · have := (own_blk h.ho _ hg).1; omega
  · exact own_ne_own h.ho h2 (by decide) hg hh
/-- The numbers move on. -/
theorem LN.next {w1 : World} {H n cl cl' : Nat} {al al' : Option Addr} {l l' : List Nat} (h : LN w H p n al cl l) (hl : w1.heap[H + 1 + 1]? = some (.cells #[.slice al' l'.length cl'] 53 (0, 0))) (ho : OI w1 (H + 3) al' l'.length cl' (natI l')) (hS : Stp (H + 1 + 1) w al w1 al') : LN w1 H p n al' cl' l' := by
  have hn : ∀ k, k < H + 1 + 1 → ¬ (k = H + 1 + 1 ∨ blk al = some k) := fun k hk hh => hh.elim (fun e => by omega) (fun hb => by have := (own_blk h.ho _ hb).1; omega)
  exact ⟨heap_mod hS.mod h.hr (hn _ (by omega)), heap_mod hS.mod h.hn (hn _ (by omega)), hl, ho, h.lt, Nat.le_trans h.z hS.mod.size⟩
theorem LN.rr {w0 w1 : World} {t0 er0 : Nat} {o0 : List UInt8} {a0' : Option Addr} {H n cl : Nat} {al al' : Option Addr} {l : List Nat} (h : LN w H p n al cl l) (h0 : Rr p B a0 cap b m w0 t0 o0 er0 a0') (hH : H = w0.heap.size) (hS0 : Stp p w0 a0' w a) (hR : Rr p B a0 cap b m w t o er a)
    (hS : Stp (H + 1 + 1) w al w1 al') : Stp p w0 a0' w1 a ∧ Rr p B a0 cap b m w1 t o er a := by
  have hge : ∀ k, (k = H + 1 + 1 ∨ blk al = some k) → H < k := fun k hh => hh.elim (fun e => by omega) (fun hb => by have := (own_blk h.ho _ hb).1; omega)
  obtain ⟨c, h1, h2⟩ := hR.cell
  have hst : Stp p w0 a0' w1 a := ⟨hS0.mod.trans hS.mod (fun _ _ h => h) (fun k hk hh => by have := hge k hh; omega), hS0.at_⟩
  refine ⟨hst, hR.of_mod hS.mod (fun hh => by have := hge p hh; have := h.lt; omega) (fun g hg hh => ?_) (fun w2 a2 h3 => h0.src w2 a2 (hst.trans h3))⟩
  rcases hh with rfl | hh
  · exact own_ne_cells h2 h.hl (by decide) hg
  · exact own_ne_own h2 h.ho (by decide) hg hh

def LensPost (p B : Nat) (a0 : Option Addr) (cap : Nat) (b : List UInt8) (m : Nat) (w : World) (a : Option Addr) (r : R (List Nat)) (e : Ending) (w' : World) : Prop :=
  match r with
  | .ok l t o => ∃ al cl a', e = .returned (.slice al l.length cl) ∧ OI w' w.heap.size al l.length cl (natI l) ∧ (∀ x ∈ l, x ≤ 15) ∧ Stp p w a w' a' ∧ Rr p B a0 cap b m w' t o 0 a'
  | .no er => ∃ v, RNo p B a0 cap b m w a er v e w'

set_option maxRecDepth 100000 in
set_option maxHeartbeats 8000000 in
theorem lengths_live {aC : Option Addr} {nC cC n : Nat} {C : List Nat} (h : Rr p B a0 cap b m w t o 0 a) (hC : Code p w a aC nC cC C) (hC19 : C.length ≤ 19) (hn : n ≤ 316) :
    Calls Try.prog 102 #[.pointer (some ⟨p, 0, none⟩), .slice aC nC cC, .int .i64 (n : Int)] w (LensPost p B a0 cap b m w a (lensGo C n n [] b m t o)) := by
  have hbl := h.bl
  have hplt := h.lt
  obtain ⟨σ, hσ⟩ : ∃ σ, σ = lensGo C n n [] b m t o := ⟨_, rfl⟩
  rw [← hσ]
  have Hσ := Lib.hid hσ
  clear hσ
  have hB3 : ∀ x y z, Below w.heap.size w (((w.alloc x).alloc y).alloc z) := fun x y z => (((Below.refl _ _).alloc (Nat.le_refl _) _).alloc (by simp) _).alloc (by simp; omega) _
  have k1 : ∀ y z, (((w.alloc (.cells #[.pointer (some ⟨p, 0, none⟩)] 84)).alloc y).alloc z).heap[w.heap.size]? = some (.cells #[.pointer (some ⟨p, 0, none⟩)] 84 (0, 0)) := fun y z => heap_alloc (heap_alloc (heap_alloc_new _ _) _) _
  have k2 : ∀ x z, (((w.alloc x).alloc (.cells #[.int .i64 (n : Int)] 3)).alloc z).heap[w.heap.size + 1]? = some (.cells #[.int .i64 (n : Int)] 3 (0, 0)) := fun x z => by
    have := heap_alloc_new (w.alloc x) (.cells #[.int .i64 (n : Int)] 3)
    rw [World.size_alloc] at this
    exact heap_alloc this _
  have k3 : ∀ x y, (((w.alloc x).alloc y).alloc (.cells #[.slice none 0 0] 53)).heap[w.heap.size + 1 + 1]? = some (.cells #[.slice none 0 0] 53 (0, 0)) := fun x y => by
    have := heap_alloc_new ((w.alloc x).alloc y) (.cells #[.slice none 0 0] 53)
    simp only [World.size_alloc] at this
    exact this
  have K1 := Lib.hid k1
  have K2 := Lib.hid k2
  have K3 := Lib.hid k3
  have HB3 := Lib.hid hB3
  clear k1 k2 k3 hB3
  go_enter Try.func102, Try.ntmps102
  go_wp2
  go_loopw [9] (fun _ wr => ∃ (f : Nat) (l : List Nat) (al : Option Addr) (cl : Nat) (ar : Option Addr) (tr : Nat) (or : List UInt8) (er : Nat), LN wr w.heap.size p n al cl l ∧ Stp p w a wr ar ∧ Rr p B a0 cap b m wr tr or er ar ∧
      ((er = 0 ∧ l.length ≤ n ∧ n ≤ l.length + f ∧ (∀ x ∈ l, x ≤ 15) ∧ lensGo C n f l b m tr or = σ) ∨ (er ≠ 0 ∧ l.length ≤ 330 ∧ σ = .no er))) (fun _ wr => far p (8 * b.length) wr)
  case atStart =>
    refine ⟨n, [], none, 0, a, t, o, 0, ⟨K1.out _ _, K2.out _ _, K3.out _ _, World.ownsRow_nil _ _ _ _, hplt, by simp⟩, Stp.of_below (HB3.out _ _ _), h.new (HB3.out _ _ _), .inl ⟨rfl, by simp, by simp, by simp, Hσ.out.symm⟩⟩
  case round =>
    obtain ⟨f, l, al, cl, ar, tr, or, er, hN, hS, hR, ⟨rfl, hl1, hl2, hl15, hF⟩ | ⟨hne, hl1, hF⟩⟩ := hrel
    · obtain ⟨cc, c01, c11, c21, c31, c41, f11, f21, f41, -⟩ := hR.cells
      have r1 := cell_at (j := 0) hN.hr rfl
      have n1 := cell_at (j := 0) hN.hn rfl
      have l1 := cell_at (j := 0) hN.hl rfl
      have Hl15 := Lib.hid hl15
      clear hl15
      by_cases hln : l.length < n
      · have hfar := far_live hR (8 * b.length)
        have Hfar := Lib.hid hfar
        have htl := hR.tl
        have hx1 := symbol_code hR (hC.step hS)
        obtain ⟨g, rfl⟩ : ∃ g, f = g + 1 := ⟨f - 1, by omega⟩
        have d1 : decide (l.length < n) = true := by simpa using hln
        clear hfar
        rw [lensGo, if_pos hln] at hF
        cases hs : symM C b m tr or with
        | no e =>
          have he := errs_sym C hs
          rw [hs] at hx1
          rw [bnd_no hs] at hF
          have HF := Lib.hid hF
          clear hF hs
          go_wp2_with (first
            | (go_at_call 100; go_must (refine hx1.mono ?_); rintro e1 w1 ⟨a1, t1, o1, rfl, hS1, hR1⟩
               have hN1 := hN.step hR hS1
               have r2 := cell_at (j := 0) hN1.hr rfl
               have l2 := cell_at (j := 0) hN1.hl rfl)
            | (at_builtin; go_must (refine wpList_appI rfl _ _ rfl (w.heap.size + 3) al l.length cl (natI l) rfl (OI.alloc hN1.ho _) _ 1 1 [((0 : Nat) : Int)] rfl (ri_new _ _ _ _ rfl) (by omega) (by have := hN1.z; simp; omega) ?_); intro a' c' w3 ho3 hg3
               have hp := hN1.push 0 hg3 ho3
               have f3 := free_at (j := 0) hp.1
               have c3 := cell_at (j := 0) hp.1 rfl
               have Hp := Lib.hid hp
               clear hp))
          go_roundw
          case rel =>
            have hp := Hp.out
            have hN2 := hN1.next hp.2.1 hp.2.2.1 hp.2.2.2
            have hS2 := hN1.rr h rfl (hS.trans hS1) hR1 hp.2.2.2
            exact ⟨0, _, a', c', a1, t1, o1, e, hN2, hS2.1, hS2.2, .inr ⟨he.1, by simp; omega, HF.out.symm⟩⟩
          case measure =>
            have hS2 := hN1.rr h rfl (hS.trans hS1) hR1 Hp.out.2.2.2
            rw [Hfar.out, far_dead hS2.2 he.1]; omega
        | ok s t1 o1 =>
          obtain ⟨rfl, hsl, hlt⟩ := sym_t hs
          have ht1 := ((good_sym C).mono hs).2.1 htl
          rw [hs] at hx1
          rw [bnd_ok hs] at hF
          clear hs
          have HF := Lib.hid hF
          clear hF
          by_cases h16 : s = 16
          · by_cases h00 : l.length = 0
            · subst h16
              have hF := HF.out
              clear HF
              rw [if_pos rfl, if_pos h00] at hF
              have HF := Lib.hid hF
              have h02 : ((l.length : Int) == 0) = true := by rw [beq_iff_eq]; omega
              have H00 := Lib.hid h00
              clear hF h00
              go_wp2_with (first
                | (go_at_call 100; go_must (refine hx1.mono ?_); rintro e1 w1 ⟨a1, rfl, hS1, hR1⟩
                   have hN1 := hN.step hR hS1
                   have r2 := cell_at (j := 0) hN1.hr rfl
                   have l2 := cell_at (j := 0) hN1.hl rfl)
                | (go_at_call 88; go_must (refine (fails_live 5 hR1).mono ?_); rintro e3 w3 ⟨rfl, hS3, hR3⟩))
              go_roundw
              case rel => exact ⟨0, l, al, cl, a1, _, _, 5, hN1.step hR1 hS3, (hS.trans hS1).trans hS3, hR3, .inr ⟨by decide, by omega, HF.out.symm⟩⟩
              case measure => rw [Hfar.out, far_dead hR3 (by decide)]; omega
            · have h01 : 1 ≤ l.length := by omega
              have h02 : ((l.length : Int) == 0) = false := by rw [beq_eq_false_iff_ne]; omega
              subst h16
              have hF := HF.out
              clear HF
              rw [if_pos rfl, if_neg h00] at hF
              have hx2 := fun w a (h : Rr p B a0 cap b m w t1 o1 0 a) => field_live 2 h (by omega)
              cases hf : fieldM 2 b m t1 o1 with
              | no e =>
                have he := errs_field 2 hf
                simp only [hf] at hx2
                rw [bnd_no hf] at hF
                have HF := Lib.hid hF
                have d2 : ((e : Int) == 0) = false := by simp; omega
                clear hF hf
                go_wp2_with (first
                  | (go_at_call 100; go_must (refine hx1.mono ?_); rintro e1 w1 ⟨a1, rfl, hS1, hR1⟩
                     have hN1 := hN.step hR hS1
                     have r2 := cell_at (j := 0) hN1.hr rfl
                     have l2 := cell_at (j := 0) hN1.hl rfl)
                  | (go_at_call 84; go_must (refine (hx2 _ _ hR1).mono ?_); rintro e2 w2 ⟨a2, t2, o2, rfl, hS2, hR2⟩
                     have hN2 := hN1.step hR1 hS2
                     have r3 := cell_at (j := 0) hN2.hr rfl
                     have l3 := cell_at (j := 0) hN2.hl rfl
                     obtain ⟨cc2, c02, c12, c22, c32, c42, f12, f22, f42, -⟩ := hR2.cells))
                go_roundw
                case rel => exact ⟨0, l, al, cl, a2, t2, o2, e, hN2, (hS.trans hS1).trans hS2, hR2, .inr ⟨he.1, by omega, HF.out.symm⟩⟩
                case measure => rw [Hfar.out, far_dead hR2 he.1]; omega
              | ok k t2 o2 =>
                have hk := field_lt hf
                obtain ⟨rfl, rfl⟩ := fieldM_t hf
                simp only [hf] at hx2
                rw [bnd_ok hf] at hF
                clear hf
                by_cases hov : n < l.length + (3 + k)
                · rw [if_pos hov] at hF
                  have HF := Lib.hid hF
                  clear hF
                  go_wp2_with (first
                    | (go_at_call 100; go_must (refine hx1.mono ?_); rintro e1 w1 ⟨a1, rfl, hS1, hR1⟩
                       have hN1 := hN.step hR hS1
                       have r2 := cell_at (j := 0) hN1.hr rfl
                       have l2 := cell_at (j := 0) hN1.hl rfl)
                    | (go_at_call 84; go_must (refine (hx2 _ _ hR1).mono ?_); rintro e2 w2 ⟨a2, rfl, hS2, hR2⟩
                       have hN2 := hN1.step hR1 hS2
                       have r3 := cell_at (j := 0) hN2.hr rfl
                       have l3 := cell_at (j := 0) hN2.hl rfl
                       obtain ⟨b8, off8, hidx, hc⟩ := Rd.open hN2.ho.ri 53 3 Try.underlying53 (by kernel_rfl)
                       have e1 := hc (l.length - 1) (by rw [length_cI, natI_length]; omega)
                       rw [cI_get, atI_natI] at e1
                       have j1 := idx_in hidx .i64 (l.length - 1) ((l.length : Int) - 1) (by omega) (by omega)
                       clear hidx hc
                       obtain ⟨cc2, c02, c12, c22, c32, c42, f12, f22, f42, -⟩ := hR2.cells)
                    | (go_at_call 112; go_must (refine (again_over_at _ (3 + k) (by omega) hR2 hN2.hl hN2.hn hN2.hr (by omega) (by omega) (by omega)).mono ?_); rintro e3 w3 ⟨a3, t3, o3, rfl, hS3, hR3⟩))
                  go_roundw
                  case rel => exact ⟨0, l, al, cl, a3, t3, o3, 5, hN2.step hR2 hS3, ((hS.trans hS1).trans hS2).trans hS3, hR3, .inr ⟨by decide, by omega, HF.out.symm⟩⟩
                  case measure => rw [Hfar.out, far_dead hR3 (by decide)]; omega
                · rw [if_neg hov] at hF
                  have HF := Lib.hid hF
                  clear hF
                  go_wp2_with (first
                    | (go_at_call 100; go_must (refine hx1.mono ?_); rintro e1 w1 ⟨a1, rfl, hS1, hR1⟩
                       have hN1 := hN.step hR hS1
                       have r2 := cell_at (j := 0) hN1.hr rfl
                       have l2 := cell_at (j := 0) hN1.hl rfl)
                    | (go_at_call 84; go_must (refine (hx2 _ _ hR1).mono ?_); rintro e2 w2 ⟨a2, rfl, hS2, hR2⟩
                       have hN2 := hN1.step hR1 hS2
                       have r3 := cell_at (j := 0) hN2.hr rfl
                       have l3 := cell_at (j := 0) hN2.hl rfl
                       obtain ⟨b8, off8, hidx, hc⟩ := Rd.open hN2.ho.ri 53 3 Try.underlying53 (by kernel_rfl)
                       have e1 := hc (l.length - 1) (by rw [length_cI, natI_length]; omega)
                       rw [cI_get, atI_natI] at e1
                       have j1 := idx_in hidx .i64 (l.length - 1) ((l.length : Int) - 1) (by omega) (by omega)
                       clear hidx hc
                       obtain ⟨cc2, c02, c12, c22, c32, c42, f12, f22, f42, -⟩ := hR2.cells)
                    | (go_at_call 112; go_must (refine (again_fits_at (atN l (l.length - 1)) (3 + k) rfl (by omega) hN2.hl hN2.hn hN2.ho hN2.z (by omega) (by omega)).mono ?_); rintro e3 w3 ⟨a3, c3, rfl, hl3, ho3, hS3⟩))
                  have hN3 := hN2.next hl3 ho3 hS3
                  have hS4 := hN2.rr h rfl ((hS.trans hS1).trans hS2) hR2 hS3
                  go_roundw
                  case rel =>
                    refine ⟨g, _, a3, c3, a2, _, _, 0, hN3, hS4.1, hS4.2, .inl ⟨rfl, by simp; omega, by simp; omega, ?_, HF.out⟩⟩
                    intro x hx
                    simp only [List.mem_append, List.mem_replicate] at hx
                    rcases hx with hx | ⟨_, rfl⟩
                    · exact Hl15.out x hx
                    · exact atN_le_of Hl15.out _
                  case measure => rw [Hfar.out, far_live hS4.2]; omega
          · by_cases h17 : s = 17
            · subst h17
              have hF := HF.out
              clear HF
              rw [if_neg h16, if_pos rfl] at hF
              have hx2 := fun w a (h : Rr p B a0 cap b m w t1 o1 0 a) => field_live 3 h (by omega)
              cases hf : fieldM 3 b m t1 o1 with
              | no e =>
                have he := errs_field 3 hf
                simp only [hf] at hx2
                rw [bnd_no hf] at hF
                have HF := Lib.hid hF
                have d2 : ((e : Int) == 0) = false := by simp; omega
                clear hF hf
                go_wp2_with (first
                  | (go_at_call 100; go_must (refine hx1.mono ?_); rintro e1 w1 ⟨a1, rfl, hS1, hR1⟩
                     have hN1 := hN.step hR hS1
                     have r2 := cell_at (j := 0) hN1.hr rfl
                     have l2 := cell_at (j := 0) hN1.hl rfl)
                  | (go_at_call 84; go_must (refine (hx2 _ _ hR1).mono ?_); rintro e2 w2 ⟨a2, t2, o2, rfl, hS2, hR2⟩
                     have hN2 := hN1.step hR1 hS2
                     have r3 := cell_at (j := 0) hN2.hr rfl
                     have l3 := cell_at (j := 0) hN2.hl rfl
                     obtain ⟨cc2, c02, c12, c22, c32, c42, f12, f22, f42, -⟩ := hR2.cells))
                go_roundw
                case rel => exact ⟨0, l, al, cl, a2, t2, o2, e, hN2, (hS.trans hS1).trans hS2, hR2, .inr ⟨he.1, by omega, HF.out.symm⟩⟩
                case measure => rw [Hfar.out, far_dead hR2 he.1]; omega
              | ok k t2 o2 =>
                have hk := field_lt hf
                obtain ⟨rfl, rfl⟩ := fieldM_t hf
                simp only [hf] at hx2
                rw [bnd_ok hf] at hF
                clear hf
                by_cases hov : n < l.length + (3 + k)
                · rw [if_pos hov] at hF
                  have HF := Lib.hid hF
                  clear hF
                  go_wp2_with (first
                    | (go_at_call 100; go_must (refine hx1.mono ?_); rintro e1 w1 ⟨a1, rfl, hS1, hR1⟩
                       have hN1 := hN.step hR hS1
                       have r2 := cell_at (j := 0) hN1.hr rfl
                       have l2 := cell_at (j := 0) hN1.hl rfl)
                    | (go_at_call 84; go_must (refine (hx2 _ _ hR1).mono ?_); rintro e2 w2 ⟨a2, rfl, hS2, hR2⟩
                       have hN2 := hN1.step hR1 hS2
                       have r3 := cell_at (j := 0) hN2.hr rfl
                       have l3 := cell_at (j := 0) hN2.hl rfl
                       obtain ⟨cc2, c02, c12, c22, c32, c42, f12, f22, f42, -⟩ := hR2.cells)
                    | (go_at_call 112; go_must (refine (again_over_at _ (3 + k) (by omega) hR2 hN2.hl hN2.hn hN2.hr (by omega) (by omega) (by omega)).mono ?_); rintro e3 w3 ⟨a3, t3, o3, rfl, hS3, hR3⟩))
                  go_roundw
                  case rel => exact ⟨0, l, al, cl, a3, t3, o3, 5, hN2.step hR2 hS3, ((hS.trans hS1).trans hS2).trans hS3, hR3, .inr ⟨by decide, by omega, HF.out.symm⟩⟩
                  case measure => rw [Hfar.out, far_dead hR3 (by decide)]; omega
                · rw [if_neg hov] at hF
                  have HF := Lib.hid hF
                  clear hF
                  go_wp2_with (first
                    | (go_at_call 100; go_must (refine hx1.mono ?_); rintro e1 w1 ⟨a1, rfl, hS1, hR1⟩
                       have hN1 := hN.step hR hS1
                       have r2 := cell_at (j := 0) hN1.hr rfl
                       have l2 := cell_at (j := 0) hN1.hl rfl)
                    | (go_at_call 84; go_must (refine (hx2 _ _ hR1).mono ?_); rintro e2 w2 ⟨a2, rfl, hS2, hR2⟩
                       have hN2 := hN1.step hR1 hS2
                       have r3 := cell_at (j := 0) hN2.hr rfl
                       have l3 := cell_at (j := 0) hN2.hl rfl
                       obtain ⟨cc2, c02, c12, c22, c32, c42, f12, f22, f42, -⟩ := hR2.cells)
                    | (go_at_call 112; go_must (refine (again_fits_at (0) (3 + k) rfl (by omega) hN2.hl hN2.hn hN2.ho hN2.z (by omega) (by omega)).mono ?_); rintro e3 w3 ⟨a3, c3, rfl, hl3, ho3, hS3⟩))
                  have hN3 := hN2.next hl3 ho3 hS3
                  have hS4 := hN2.rr h rfl ((hS.trans hS1).trans hS2) hR2 hS3
                  go_roundw
                  case rel =>
                    refine ⟨g, _, a3, c3, a2, _, _, 0, hN3, hS4.1, hS4.2, .inl ⟨rfl, by simp; omega, by simp; omega, ?_, HF.out⟩⟩
                    intro x hx
                    simp only [List.mem_append, List.mem_replicate] at hx
                    rcases hx with hx | ⟨_, rfl⟩
                    · exact Hl15.out x hx
                    · omega
                  case measure => rw [Hfar.out, far_live hS4.2]; omega
            · by_cases h18 : s = 18
              · subst h18
                have hF := HF.out
                clear HF
                rw [if_neg h16, if_neg h17, if_pos rfl] at hF
                have hx2 := fun w a (h : Rr p B a0 cap b m w t1 o1 0 a) => field_live 7 h (by omega)
                cases hf : fieldM 7 b m t1 o1 with
                | no e =>
                  have he := errs_field 7 hf
                  simp only [hf] at hx2
                  rw [bnd_no hf] at hF
                  have HF := Lib.hid hF
                  have d2 : ((e : Int) == 0) = false := by simp; omega
                  clear hF hf
                  go_wp2_with (first
                    | (go_at_call 100; go_must (refine hx1.mono ?_); rintro e1 w1 ⟨a1, rfl, hS1, hR1⟩
                       have hN1 := hN.step hR hS1
                       have r2 := cell_at (j := 0) hN1.hr rfl
                       have l2 := cell_at (j := 0) hN1.hl rfl)
                    | (go_at_call 84; go_must (refine (hx2 _ _ hR1).mono ?_); rintro e2 w2 ⟨a2, t2, o2, rfl, hS2, hR2⟩
                       have hN2 := hN1.step hR1 hS2
                       have r3 := cell_at (j := 0) hN2.hr rfl
                       have l3 := cell_at (j := 0) hN2.hl rfl
                       obtain ⟨cc2, c02, c12, c22, c32, c42, f12, f22, f42, -⟩ := hR2.cells))
                  go_roundw
                  case rel => exact ⟨0, l, al, cl, a2, t2, o2, e, hN2, (hS.trans hS1).trans hS2, hR2, .inr ⟨he.1, by omega, HF.out.symm⟩⟩
                  case measure => rw [Hfar.out, far_dead hR2 he.1]; omega
                | ok k t2 o2 =>
                  have hk := field_lt hf
                  obtain ⟨rfl, rfl⟩ := fieldM_t hf
                  simp only [hf] at hx2
                  rw [bnd_ok hf] at hF
                  clear hf
                  by_cases hov : n < l.length + (11 + k)
                  · rw [if_pos hov] at hF
                    have HF := Lib.hid hF
                    clear hF
                    go_wp2_with (first
                      | (go_at_call 100; go_must (refine hx1.mono ?_); rintro e1 w1 ⟨a1, rfl, hS1, hR1⟩
                         have hN1 := hN.step hR hS1
                         have r2 := cell_at (j := 0) hN1.hr rfl
                         have l2 := cell_at (j := 0) hN1.hl rfl)
                      | (go_at_call 84; go_must (refine (hx2 _ _ hR1).mono ?_); rintro e2 w2 ⟨a2, rfl, hS2, hR2⟩
                         have hN2 := hN1.step hR1 hS2
                         have r3 := cell_at (j := 0) hN2.hr rfl
                         have l3 := cell_at (j := 0) hN2.hl rfl
                         obtain ⟨cc2, c02, c12, c22, c32, c42, f12, f22, f42, -⟩ := hR2.cells)
                      | (go_at_call 112; go_must (refine (again_over_at _ (11 + k) (by omega) hR2 hN2.hl hN2.hn hN2.hr (by omega) (by omega) (by omega)).mono ?_); rintro e3 w3 ⟨a3, t3, o3, rfl, hS3, hR3⟩))
                    go_roundw
                    case rel => exact ⟨0, l, al, cl, a3, t3, o3, 5, hN2.step hR2 hS3, ((hS.trans hS1).trans hS2).trans hS3, hR3, .inr ⟨by decide, by omega, HF.out.symm⟩⟩
                    case measure => rw [Hfar.out, far_dead hR3 (by decide)]; omega
                  · rw [if_neg hov] at hF
                    have HF := Lib.hid hF
                    clear hF
                    go_wp2_with (first
                      | (go_at_call 100; go_must (refine hx1.mono ?_); rintro e1 w1 ⟨a1, rfl, hS1, hR1⟩
                         have hN1 := hN.step hR hS1
                         have r2 := cell_at (j := 0) hN1.hr rfl
                         have l2 := cell_at (j := 0) hN1.hl rfl)
                      | (go_at_call 84; go_must (refine (hx2 _ _ hR1).mono ?_); rintro e2 w2 ⟨a2, rfl, hS2, hR2⟩
                         have hN2 := hN1.step hR1 hS2
                         have r3 := cell_at (j := 0) hN2.hr rfl
                         have l3 := cell_at (j := 0) hN2.hl rfl
                         obtain ⟨cc2, c02, c12, c22, c32, c42, f12, f22, f42, -⟩ := hR2.cells)
                      | (go_at_call 112; go_must (refine (again_fits_at (0) (11 + k) rfl (by omega) hN2.hl hN2.hn hN2.ho hN2.z (by omega) (by omega)).mono ?_); rintro e3 w3 ⟨a3, c3, rfl, hl3, ho3, hS3⟩))
                    have hN3 := hN2.next hl3 ho3 hS3
                    have hS4 := hN2.rr h rfl ((hS.trans hS1).trans hS2) hR2 hS3
                    go_roundw
                    case rel =>
                      refine ⟨g, _, a3, c3, a2, _, _, 0, hN3, hS4.1, hS4.2, .inl ⟨rfl, by simp; omega, by simp; omega, ?_, HF.out⟩⟩
                      intro x hx
                      simp only [List.mem_append, List.mem_replicate] at hx
                      rcases hx with hx | ⟨_, rfl⟩
                      · exact Hl15.out x hx
                      · omega
                    case measure => rw [Hfar.out, far_live hS4.2]; omega
              · have hF := HF.out
                clear HF
                rw [if_neg h16, if_neg h17, if_neg h18] at hF
                have HF := Lib.hid hF
                have e16 : ((s : Int) == 16) = false := by simp; omega
                have e17 : ((s : Int) == 17) = false := by simp; omega
                have e18 : ((s : Int) == 18) = false := by simp; omega
                have hs15 : s ≤ 15 := by omega
                clear hF h16 h17 h18
                go_wp2_with (first
                  | (go_at_call 100; go_must (refine hx1.mono ?_); rintro e1 w1 ⟨a1, rfl, hS1, hR1⟩
                     have hN1 := hN.step hR hS1
                     have r2 := cell_at (j := 0) hN1.hr rfl
                     have l2 := cell_at (j := 0) hN1.hl rfl)
                  | (at_builtin; go_must (refine wpList_appI rfl _ _ rfl (w.heap.size + 3) al l.length cl (natI l) rfl (OI.alloc hN1.ho _) _ 1 1 [(s : Int)] rfl (ri_new _ _ _ _ rfl) (by omega) (by have := hN1.z; simp; omega) ?_); intro a' c' w3 ho3 hg3
                     have hp := hN1.push s hg3 ho3
                     have f3 := free_at (j := 0) hp.1
                     have c3 := cell_at (j := 0) hp.1 rfl
                     have Hp := Lib.hid hp
                     clear hp))
                go_roundw
                case rel =>
                  have hp := Hp.out
                  have hN2 := hN1.next hp.2.1 hp.2.2.1 hp.2.2.2
                  have hS2 := hN1.rr h rfl (hS.trans hS1) hR1 hp.2.2.2
                  refine ⟨g, _, a', c', a1, t1, _, 0, hN2, hS2.1, hS2.2, .inl ⟨rfl, by simp; omega, by simp; omega, ?_, HF.out⟩⟩
                  intro x hx
                  simp only [List.mem_append, List.mem_singleton] at hx
                  rcases hx with hx | rfl
                  · exact Hl15.out x hx
                  · exact hs15
                case measure =>
                  have hS2 := hN1.rr h rfl (hS.trans hS1) hR1 Hp.out.2.2.2
                  rw [Hfar.out, far_live hS2.2]; omega
      · have hln : l.length = n := by omega
        have d1 : decide (l.length < n) = false := by simp; omega
        have e : lensGo C n f l b m tr or = .ok l tr or := by
          cases f with
          | zero => rfl
          | succ f => rw [lensGo, if_neg (by omega)]; rfl
        rw [e] at hF
        subst hF
        clear e Hσ
        have HLn := Lib.hid hln
        clear hln
        go_wp2
        go_ret
        exact ⟨al, cl, ar, rfl, own_mono hN.ho (by omega), Hl15.out, hS, hR⟩
    · obtain ⟨cc, c01, c11, c21, c31, c41, f11, f21, f41, -⟩ := hR.cells
      have r1 := cell_at (j := 0) hN.hr rfl
      have n1 := cell_at (j := 0) hN.hn rfl
      have l1 := cell_at (j := 0) hN.hl rfl
      have d2 : ((er : Int) == 0) = false := by simp; omega
      have HF := Lib.hid hF
      clear hF
      by_cases hln : l.length < n
      · have d1 : decide (l.length < n) = true := by simpa using hln
        go_wp2
        go_ret
        rw [HF.out]
        exact ⟨_, ar, tr, or, rfl, hS, hR⟩
      · have d1 : decide (l.length < n) = false := by simpa using hln
        go_wp2
        go_ret
        rw [HF.out]
        exact ⟨_, ar, tr, or, rfl, hS, hR⟩
end
end Go.Proofs.Ytpfalaghggjbjaa
