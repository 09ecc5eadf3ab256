/-
  The walk of inflate's reader's dynamic.
  Conditions: as the reader's.
-/
import Derived.Test.YtpfalaghggjbjaaYH
import Derived.Test.YtpfalaghggjbjaaPlO
import Derived.Test.YtpfalaghggjbjaaSl
namespace Go.Proofs.Ytpfalaghggjbjaa
open Go.RowKit

theorem size53 (w : World) : (sizeOf (Try.prog.elem 53)).run Try.prog w = .ok 1 w := by
  obtain ⟨i, hi, hz0, hz1, hz2⟩ := info_parts info3
  have he : Try.prog.elem 53 = 3 := by simp [Program.elem, Try.underlying53]
  rw [he]
  simp [sizeOf, typeInfo, hi, hz1]
theorem under53 : Try.prog.underlying 53 = some (.slice (Try.prog.elem 53)) := by
  have he : Try.prog.elem 53 = 3 := by simp [Program.elem, Try.underlying53]
  rw [he]; exact Try.underlying53
theorem adv0 (a : Option Addr) (cap : Nat) : adv a cap 0 = a := by
  unfold adv
  split
  · rfl
  · cases a <;> simp [Addr.add]
theorem slice53_h (w : World) (a : Option Addr) (n cap hi : Nat) (k2 : IntKind) (y : Int) (hy : y = (hi : Int)) (h2 : hi ≤ cap) :
    (Instr.slice 53 (.slice a n cap) none (some (.int k2 y)) none).run Try.prog w = .ok (.slice a hi cap) w := by
  subst hy
  rw [run_slice_h w 53 a n cap under53 k2 hi (by omega) (by omega), size53]
  have := adv0 a cap
  unfold adv at this
  simp [Result.andThen, sliced]
  intro h
  rw [if_neg h] at this
  exact this
theorem index53 (w : World) (g n cap j : Nat) (hj : j < n) : (Instr.indexAt 53 (.slice (some ⟨g, 0, none⟩) n cap) (.int .i64 (j : Int))).run Try.prog w = .ok (.pointer (some ⟨g, j, none⟩)) w := by
  rw [run_indexAt_slice _ _ _ _ _ _ _ under53, if_pos ⟨by omega, by omega⟩, size53]
  simp [Result.andThen, Addr.add_lit]
theorem slice53_l (w : World) (a : Option Addr) (n cap lo : Nat) (k1 : IntKind) (x : Int) (hx : x = (lo : Int)) (h1 : lo ≤ n) :
    (Instr.slice 53 (.slice a n cap) (some (.int k1 x)) none none).run Try.prog w = .ok (.slice (adv a cap lo) (n - lo) (cap - lo)) w := by
  subst hx
  rw [run_slice_l w 53 a n cap under53 k1 lo (by omega) (by omega), size53]
  simp [Result.andThen, sliced, adv]
theorem ri_h {w : World} {a : Option Addr} {n cap hi : Nat} {l : List Nat} (h : RI w a n cap (natI l)) (h2 : hi ≤ n) : RI w a hi cap (natI (l.take hi)) := by
  have := rd_adv (lo := 0) (hi := hi) (m := hi) (ys := cI (natI (l.take hi))) h (Nat.zero_le _) h2 rfl (by simp [cI, natI, List.map_take])
  rw [adv0, Nat.sub_zero] at this
  exact this
theorem ri_l {w : World} {a : Option Addr} {n cap lo : Nat} {l : List Nat} (h : RI w a n cap (natI l)) (h2 : lo ≤ n) : RI w (adv a cap lo) (n - lo) (cap - lo) (natI (l.drop lo)) := by
  have hl := RI.len h
  rw [natI_length] at hl
  refine rd_adv h h2 (Nat.le_refl _) rfl ?_
  rw [List.take_of_length_le (by simp [cI, natI, hl])]
  simp [cI, natI, List.map_drop]

theorem order_lt : ∀ s : Fin 19, atN orderL s.val < 19 := by decide
theorem Stp.then {S : Nat → Prop} {p : Nat} {w w1 w2 : World} {a a1 : Option Addr} (h : Stp p w a w1 a1) (hm : Mod S w1 w2) (hS : ∀ k, k < w.heap.size → S k → k = p ∨ blk a = some k) : Stp p w a w2 a1 :=
  ⟨h.mod.trans hm (fun _ _ h => h) hS, h.at_⟩
section
variable {p B : Nat} {a0 : Option Addr} {cap : Nat} {b : List UInt8} {m : Nat} {w : World} {t : Nat} {o : List UInt8} {er : Nat} {a : Option Addr}
/-- A row of the call's own is not written while the reader reads. -/
theorem code_of_own {H nN cN : Nat} {aC : Option Addr} {L : List Nat} (hR : Rr p B a0 cap b m w t o er a) (ho : OI w H aC nN cN (natI L)) (hp : p < H) : ∀ w' a', Stp p w a w' a' → OI w' H aC nN cN (natI L) := by
  obtain ⟨c, h1, h2⟩ := hR.cell
  intro w' a' hS
  refine own_mod ho hS.mod fun g hg hh => ?_
  rcases hh with rfl | hh
  · have := (own_blk ho _ hg).1; omega
  · exact own_ne_own ho h2 (by decide) hg hh

def DynPost (p B : Nat) (a0 : Option Addr) (cap : Nat) (b : List UInt8) (m : Nat) (w : World) (a : Option Addr) (r : R (List Nat × List Nat)) (e : Ending) (w' : World) : Prop :=
  match r with
  | .ok x t o => ∃ aL nL cL aD nD cD a', e = .returned (.tuple #[.slice aL nL cL, .slice aD nD cD]) ∧ Code p w' a' aL nL cL x.1 ∧ Code p w' a' aD nD cD x.2 ∧ Stp p w a w' a' ∧ Rr p B a0 cap b m w' t o 0 a'
  | .no er => ∃ v v', RNo p B a0 cap b m w a er (.tuple #[v, v']) e w'

set_option maxRecDepth 100000 in
set_option maxHeartbeats 8000000 in
theorem dynamic_live (h : Rr p B a0 cap b m w t o 0 a) : Calls Try.prog 87 #[.pointer (some ⟨p, 0, none⟩)] w (DynPost p B a0 cap b m w a (dynM b m t o)) := by
  have hbl := h.bl
  have hplt := h.lt
  obtain ⟨σ, hσ⟩ : ∃ σ, σ = dynM b m t o := ⟨_, rfl⟩
  rw [← hσ]
  rw [dynM_eq] at hσ
  have Hσ := Lib.hid hσ
  clear hσ
  go_enter Try.func87, Try.ntmps87
  go_upto_region 1 with fail
  go_cut [4, 5, 6] from 7 (fun u v y wx => ∃ (j k i : Nat) (aq : Option Addr) (tq : Nat) (oq : List UInt8) (eq : Nat), u = .int .i64 (257 + (j : Int)) ∧ v = .int .i64 (1 + (k : Int)) ∧ y = .int .i64 (4 + (i : Int)) ∧ j < 32 ∧ k < 32 ∧ i < 16 ∧
      Stp p w a wx aq ∧ Rr p B a0 cap b m wx tq oq eq aq ∧ ((eq = 0 ∧ (if 286 < 257 + j ∨ 30 < 1 + k then failM 5 else dyn2 j k i) b m tq oq = σ) ∨ (eq ≠ 0 ∧ σ = .no eq)))
  case first =>
    have hx1 := field_live 5 h (by omega)
    have hx2 := fun w a t o (h : Rr p B a0 cap b m w t o 0 a) => field_live 5 h (by omega)
    have hx3 := fun w a t o (h : Rr p B a0 cap b m w t o 0 a) => field_live 4 h (by omega)
    cases f1 : fieldM 5 b m t o with
    | no e =>
      have he := errs_field 5 f1
      rw [f1] at hx1
      have hσ := Hσ.out
      rw [bnd_no f1] at hσ
      clear Hσ f1
      have HF := Lib.hid hσ
      clear hσ
      go_wp2_with (first
        | (go_at_call 84; first
            | (have _t := hR1; go_must (refine (field_dead _ hR1 he.1).mono ?_); rintro e2 w2 ⟨rfl, rfl⟩)
            | (go_must (refine hx1.mono ?_); rintro e1 w1 ⟨a1, t1, o1, rfl, hS1, hR1⟩)))
      go_meet
      exact ⟨0, 0, 0, a1, t1, o1, e, rfl, rfl, rfl, by omega, by omega, by omega, hS1, hR1, .inr ⟨he.1, HF.out⟩⟩
    | ok j t1 o1 =>
      have hj := field_lt f1
      obtain ⟨rfl, rfl⟩ := fieldM_t f1
      rw [f1] at hx1
      have hσ := Hσ.out
      rw [bnd_ok f1] at hσ
      clear Hσ f1
      have hx2 := fun w a => hx2 w a (t + 5) o1
      cases f2 : fieldM 5 b m (t + 5) o1 with
      | no e =>
        have he := errs_field 5 f2
        simp only [f2] at hx2
        rw [bnd_no f2] at hσ
        have HF := Lib.hid hσ
        clear hσ f2
        go_wp2_with (first
          | (go_at_call 84; first
              | (have _t := hR2; go_must (refine (field_dead _ hR2 he.1).mono ?_); rintro e2 w2 ⟨rfl, rfl⟩)
              | (have _t := hR1; go_must (refine (hx2 _ _ hR1).mono ?_); rintro e1 w2 ⟨a2, t2, o2, rfl, hS2, hR2⟩)
              | (go_must (refine hx1.mono ?_); rintro e1 w1 ⟨a1, rfl, hS1, hR1⟩)))
        go_meet
        exact ⟨j, 0, 0, a2, t2, o2, e, rfl, rfl, rfl, by omega, by omega, by omega, hS1.trans hS2, hR2, .inr ⟨he.1, HF.out⟩⟩
      | ok k t2 o2 =>
        have hk := field_lt f2
        obtain ⟨rfl, rfl⟩ := fieldM_t f2
        simp only [f2] at hx2
        rw [bnd_ok f2] at hσ
        clear f2
        have hx3 := fun w a => hx3 w a (t + 5 + 5) o2
        cases f3 : fieldM 4 b m (t + 5 + 5) o2 with
        | no e =>
          have he := errs_field 4 f3
          simp only [f3] at hx3
          rw [bnd_no f3] at hσ
          have HF := Lib.hid hσ
          clear hσ f3
          go_wp2_with (first
            | (go_at_call 84; first
                | (have _t := hR2; go_must (refine (hx3 _ _ hR2).mono ?_); rintro e2 w3 ⟨a3, t3, o3, rfl, hS3, hR3⟩)
                | (have _t := hR1; go_must (refine (hx2 _ _ hR1).mono ?_); rintro e1 w2 ⟨a2, rfl, hS2, hR2⟩)
                | (go_must (refine hx1.mono ?_); rintro e1 w1 ⟨a1, rfl, hS1, hR1⟩)))
          go_meet
          exact ⟨j, k, 0, a3, t3, o3, e, rfl, rfl, rfl, by omega, by omega, by omega, (hS1.trans hS2).trans hS3, hR3, .inr ⟨he.1, HF.out⟩⟩
        | ok i t3 o3 =>
          have hi := field_lt f3
          obtain ⟨rfl, rfl⟩ := fieldM_t f3
          simp only [f3] at hx3
          rw [bnd_ok f3] at hσ
          have HF := Lib.hid hσ
          clear hσ f3
          go_wp2_with (first
            | (go_at_call 84; first
                | (have _t := hR2; go_must (refine (hx3 _ _ hR2).mono ?_); rintro e2 w3 ⟨a3, rfl, hS3, hR3⟩)
                | (have _t := hR1; go_must (refine (hx2 _ _ hR1).mono ?_); rintro e1 w2 ⟨a2, rfl, hS2, hR2⟩)
                | (go_must (refine hx1.mono ?_); rintro e1 w1 ⟨a1, rfl, hS1, hR1⟩)))
          go_meet
          exact ⟨j, k, i, a3, _, _, 0, rfl, rfl, rfl, by omega, by omega, by omega, (hS1.trans hS2).trans hS3, hR3, .inl ⟨rfl, HF.out.symm⟩⟩
  case rest =>
    obtain ⟨j, k, i, aq, tq, oq, eq, rfl, rfl, rfl, hj, hk, hi, hS, hR, hst⟩ := hcut
    go_upto_region 2 with fail
    obtain ⟨w2, hw2⟩ : ∃ w2, w2 = wc := ⟨_, rfl⟩
    rw [← hw2] at hS hR ⊢
    clear hw2
    go_cut [36] from 7 (fun u wx => ∃ bb : Bool, u = .bool bb ∧ wx = w2 ∧ bb = (decide (eq = 0) && decide (286 < 257 + j ∨ 30 < 1 + k)))
    case first =>
      obtain ⟨cc, c01, c11, c21, c31, c41, f11, f21, f41, -⟩ := hR.cells
      by_cases h0 : eq = 0
      · subst h0
        by_cases hb1 : 286 < 257 + j
        · have d1 : decide ((286 : Int) < 257 + j) = true := by simp; omega
          go_wp2
          go_meet
          exact ⟨_, rfl, rfl, by simp [hb1]⟩
        · have d1 : decide ((286 : Int) < 257 + j) = false := by simp; omega
          by_cases hb2 : 30 < 1 + k
          · have d2 : decide ((30 : Int) < 1 + k) = true := by simp; omega
            go_wp2
            go_meet
            exact ⟨_, rfl, rfl, by simp [hb2]⟩
          · have d2 : decide ((30 : Int) < 1 + k) = false := by simp; omega
            go_wp2
            go_meet
            exact ⟨_, rfl, rfl, by simp [hb1, hb2]⟩
      · have d : ((eq : Int) == 0) = false := by simp; omega
        go_wp2
        go_meet
        exact ⟨_, rfl, rfl, by simp [h0]⟩
    case rest =>
    obtain ⟨bb, rfl, rfl, hbb⟩ := hcut
    have Hbb := Lib.hid hbb
    clear hbb
    go_upto_if 36 with fail
    go_cut [] from 7 (fun wx => ∃ (ar : Option Addr) (tr : Nat) (or : List UInt8) (er : Nat), Stp p w a wx ar ∧ Rr p B a0 cap b m wx tr or er ar ∧
        ((er = 0 ∧ 257 + j ≤ 286 ∧ 1 + k ≤ 30 ∧ dyn2 j k i b m tr or = σ) ∨ (er ≠ 0 ∧ σ = .no er)))
    case first =>
      rcases hst with ⟨rfl, hF⟩ | ⟨hne, hF⟩
      · by_cases hbad : 286 < 257 + j ∨ 30 < 1 + k
        · rw [if_pos hbad] at hF
          have HF := Lib.hid hF
          have e : bb = true := by rw [Hbb.out]; simp [hbad]
          clear hF Hσ Hbb
          subst e
          go_wp2_with (go_at_call 88; go_must (refine (fails_live 5 hR).mono ?_); rintro e3 w3 ⟨rfl, hS3, hR3⟩)
          go_meet
          exact ⟨aq, _, _, 5, hS.trans hS3, hR3, .inr ⟨by decide, HF.out.symm⟩⟩
        · rw [if_neg hbad] at hF
          have HF := Lib.hid hF
          have e : bb = false := by rw [Hbb.out]; simp [hbad]
          have hb1 : 257 + j ≤ 286 := by omega
          have hb2 : 1 + k ≤ 30 := by omega
          clear hF Hσ hbad Hbb
          subst e
          go_wp2
          go_meet
          exact ⟨aq, tq, oq, 0, hS, hR, .inl ⟨rfl, hb1, hb2, HF.out⟩⟩
      · have HF := Lib.hid hF
        have e : bb = false := by rw [Hbb.out]; simp [hne]
        clear hF Hσ Hbb
        subst e
        go_wp2
        go_meet
        exact ⟨aq, tq, oq, eq, hS, hR, .inr ⟨hne, HF.out⟩⟩
    case rest =>
      clear hS hR hst
      obtain ⟨ar, tr, or, er, hS, hR, hst⟩ := hcut
      obtain ⟨wa, hwa⟩ : ∃ wa, wa = wc := ⟨_, rfl⟩
      rw [← hwa] at hS hR ⊢
      clear hwa
      have hza := hS.mod.size
      have hi19 : (Try.prog.info? 133).map (·.size) = some (aI (natI orderL)).size := by kernel_rfl
      have hs19 : 19 = (aI (natI orderL)).size := by kernel_rfl
      have Hi19 := Lib.hid hi19
      have Hs19 := Lib.hid hs19
      clear hi19 hs19
      go_wp2_with (first
        | (refine wpList_buildTo rfl 133 _ rfl _ rfl (aI (natI orderL)) (by kernel_rfl) ?_)
        | (refine wpList_store_rowTo rfl 133 _ _ rfl rfl wa.heap.size (aI (natI orderL)) rfl rfl 133 _ (heap_alloc_new _ _) Hi19.out Hs19.out (aI_one _) ?_
           refine (fun (k : ∀ wT, Below wa.heap.size wa wT → wT.heap[wa.heap.size]? = some (.cells (aI (natI orderL)) 133 (0, 0)) → wpList _ _ _ _ _ wT) => k _ (below_setRow1 ((Below.refl _ _).alloc (Nat.le_refl _) _) (Nat.le_refl _) _) (setRow_heap _ _ _ _ _ _ (heap_alloc_new _ _))) ?_
           intro wT hbT hT
           have hzT := hbT.size)
        | (at_make; go_must (refine wpList_makeI rfl _ _ rfl w.heap.size 19 19 19 rfl rfl rfl rfl (by omega) (by omega) ?_); intro w5 ho5 hm5))
      have hR5 : Rr p B a0 cap b m w5 tr or er ar := (hR.new hbT).kept hm5
      have hS5 : Stp p w a w5 ar := (hS.trans (Stp.of_below hbT)).then hm5 (fun _ _ h => h.elim)
      have hT5 := heap_mod hm5 hT id
      have hz5 := hm5.size
      obtain ⟨g, hg⟩ : ∃ g, g = wT.heap.size := ⟨_, rfl⟩
      rw [← hg] at ho5 ⊢
      have hgw : w.heap.size ≤ g := by omega
      have hga : wa.heap.size < g := by have := lt_at hT; omega
      clear hg hS hR hT hm5
      go_loopw [42] (fun u wr => ∃ (s : Nat) (cs : List Nat) (ax : Option Addr) (tx : Nat) (ox : List UInt8) (ex : Nat), u = .int .i64 s ∧ s ≤ 4 + i ∧ cs.length = 19 ∧ OI wr w.heap.size (some ⟨g, 0, none⟩) 19 19 (natI cs) ∧ (∀ x ∈ cs, x ≤ 7) ∧
          wr.heap[wa.heap.size]? = some (.cells (aI (natI orderL)) 133 (0, 0)) ∧ Stp p w a wr ax ∧ Rr p B a0 cap b m wr tx ox ex ax ∧
          ((ex = 0 ∧ 257 + j ≤ 286 ∧ 1 + k ≤ 30 ∧ bnd (readLens (4 + i - s) s cs) (dyn3 j k) b m tx ox = σ) ∨ (ex ≠ 0 ∧ σ = .no ex))) (fun u _ => 4 + i - (intOf u).toNat)
      case atStart =>
        exact ⟨0, List.replicate 19 0, ar, tr, or, er, rfl, by omega, by simp, ho5, by simp, hT5, hS5, hR5, hst⟩
      case round =>
        obtain ⟨s, cs, ax, tx, ox, ex, rfl, hs, hcs, ho, hc7, hT, hS, hR, hst⟩ := hrel
        have Hcs := Lib.hid hcs
        have Hc7 := Lib.hid hc7
        have Hst := Lib.hid hst
        clear hcs hc7 hst ho5 hT5 hS5 hR5
        by_cases hsi : s < 4 + i
        · have d1 : decide ((s : Int) < 4 + i) = true := by simp; omega
          have hx19 := order_lt ⟨s, by omega⟩
          simp only at hx19
          have cT := arr_cellN hT (j := s) (by show s < 19; omega)
          have hj0 : (0 : Int) ≤ (s : Int) := by omega
          have hj1 : (s : Int) < 19 := by omega
          have hix := fun w => index53 w g 19 19 (atN orderL s) hx19
          have hnq : ¬ (wa.heap.size = p ∨ blk ax = some wa.heap.size) := by
            obtain ⟨c', h1', h2'⟩ := hR.cell
            exact fun hh => hh.elim (fun e => by omega) (fun hb => own_ne_cells h2' hT (by decide) hb)
          have hoS := code_of_own hR ho hplt
          have HoS := Lib.hid hoS
          have hrl := @readLens_step (4 + i) s cs hsi j k
          have Hrl := Lib.hid hrl
          have hxs : atN orderL s = atN orderL s := rfl
          clear hoS hrl hxs
          obtain ⟨x, hx⟩ : ∃ x, x = atN orderL s := ⟨_, rfl⟩
          rw [← hx] at cT hx19 hix
          have Hx := Lib.hid hx
          have hxj0 : (0 : Int) ≤ (x : Int) := by omega
          have hxj1 : (x : Int) < 19 := by omega
          clear hx
          -- what a store of v < 8 leaves
          have fin : ∀ (w1 : World) (a1 : Option Addr) (t1 : Nat) (o1 : List UInt8) (e1 v : Nat), Stp p wr ax w1 a1 → Rr p B a0 cap b m w1 t1 o1 e1 a1 → v ≤ 7 →
              ((e1 = 0 ∧ 257 + j ≤ 286 ∧ 1 + k ≤ 30 ∧ bnd (readLens (4 + i - (s + 1)) (s + 1) (cs.set x v)) (dyn3 j k) b m t1 o1 = σ) ∨ (e1 ≠ 0 ∧ σ = .no e1)) →
              ∃ (s' : Nat) (cs : List Nat) (ax : Option Addr) (tx : Nat) (ox : List UInt8) (ex : Nat), Value.int .i64 ((s : Int) + 1) = .int .i64 s' ∧ s' ≤ 4 + i ∧ cs.length = 19 ∧ OI (w1.setCell ⟨g, x, none⟩ (.int .i64 (v : Int))) w.heap.size (some ⟨g, 0, none⟩) 19 19 (natI cs) ∧ (∀ x ∈ cs, x ≤ 7) ∧
                (w1.setCell ⟨g, x, none⟩ (.int .i64 (v : Int))).heap[wa.heap.size]? = some (.cells (aI (natI orderL)) 133 (0, 0)) ∧ Stp p w a (w1.setCell ⟨g, x, none⟩ (.int .i64 (v : Int))) ax ∧ Rr p B a0 cap b m (w1.setCell ⟨g, x, none⟩ (.int .i64 (v : Int))) tx ox ex ax ∧
                ((ex = 0 ∧ 257 + j ≤ 286 ∧ 1 + k ≤ 30 ∧ bnd (readLens (4 + i - s') s' cs) (dyn3 j k) b m tx ox = σ) ∨ (ex ≠ 0 ∧ σ = .no ex)) := by
            intro w1 a1 t1 o1 e1 v hS1 hR1 hv hst1
            have ho1 := HoS.out w1 a1 hS1
            obtain ⟨c1', h1', h2'⟩ := hR1.cell
            have hmd : Mod (fun k => k = g) w1 (w1.setCell ⟨g, x, none⟩ (.int .i64 (v : Int))) := (Mod.refl _ _).setCell _ _ (fun _ => rfl)
            have hSt : Stp p w a (w1.setCell ⟨g, x, none⟩ (.int .i64 (v : Int))) a1 := (hS.trans hS1).then hmd (fun q hq e => by omega)
            refine ⟨s + 1, cs.set x v, a1, t1, o1, e1, by go_num, by omega, by simp [Hcs.out], by rw [natI_set]; exact oi_put ho1 hx19 _, ?_, heap_set_other (heap_mod hS1.mod hT hnq) (fun e => by simp at e; omega) _, hSt, ?_, hst1⟩
            · intro y hy
              rcases List.mem_or_eq_of_mem_set hy with h | h
              · exact Hc7.out y h
              · omega
            · exact hR1.of_mod hmd (fun e => by omega) (fun q hq e => by rw [e] at hq; exact own_ne_own h2' ho1 (by decide) hq rfl) (fun w2 a2 h2 => h.src w2 a2 (hSt.trans h2))
          have Fin := Lib.hid fin
          clear fin
          rcases Hst.out with ⟨rfl, hb1, hb2, hF⟩ | ⟨hne, hF⟩
          · rw [Hrl.out] at hF
            have hx1 := field_live 3 hR.drew (by omega)
            cases f3 : fieldM 3 b m tx ox with
            | no e =>
              have he := errs_field 3 f3
              rw [f3] at hx1
              rw [bnd_no f3] at hF
              have HF := Lib.hid hF
              clear hF f3 Hst
              go_wp2
              go_region_held3 (fun w' => w'.cell? ⟨wa.heap.size, s, none⟩ = some (.int .i64 (x : Int)))
                (first | go_keep | exact cT1 | exact ((Mod.refl (fun k => k = g) _).setCell _ _ (fun _ => rfl)).cell cT1 (fun e => by simp at e; omega))
                (first | (go_at_call 84; go_must (refine hx1.mono ?_); rintro e1 w1 ⟨a1, t1, o1, rfl, hS1, hR1⟩
                          have cT1 := hS1.mod.cell (w := wr.drew) cT hnq
                          have oc := oi_cell (HoS.out w1 a1 ((Stp.refl p wr ax).drew.trans hS1)) hx19
                          obtain ⟨oc1, oc2⟩ := oc))
              go_wp2
              exact ⟨Fin.out w1 a1 t1 o1 e 0 ((Stp.refl p wr ax).drew.trans hS1) hR1 (by omega) (.inr ⟨he.1, HF.out.symm⟩), by simp [intOf]; omega⟩
            | ok v t1 o1 =>
              have hv := field_lt f3
              obtain ⟨rfl, rfl⟩ := fieldM_t f3
              rw [f3] at hx1
              rw [bnd_ok f3] at hF
              have HF := Lib.hid hF
              clear hF f3 Hst
              go_wp2
              go_region_held3 (fun w' => w'.cell? ⟨wa.heap.size, s, none⟩ = some (.int .i64 (x : Int)))
                (first | go_keep | exact cT1 | exact ((Mod.refl (fun k => k = g) _).setCell _ _ (fun _ => rfl)).cell cT1 (fun e => by simp at e; omega))
                (first | (go_at_call 84; go_must (refine hx1.mono ?_); rintro e1 w1 ⟨a1, rfl, hS1, hR1⟩
                          have cT1 := hS1.mod.cell (w := wr.drew) cT hnq
                          have oc := oi_cell (HoS.out w1 a1 ((Stp.refl p wr ax).drew.trans hS1)) hx19
                          obtain ⟨oc1, oc2⟩ := oc))
              go_wp2
              exact ⟨Fin.out w1 a1 _ _ 0 v ((Stp.refl p wr ax).drew.trans hS1) hR1 (by omega) (.inl ⟨rfl, hb1, hb2, by rw [← Hx.out] at HF; exact HF.out⟩), by simp [intOf]; omega⟩
          · have HF := Lib.hid hF
            clear hF Hst
            have oc := oi_cell (HoS.out wr.drew ax (Stp.refl p wr ax).drew) hx19
            obtain ⟨oc1, oc2⟩ := oc
            have cT2 : ∀ v, (wr.setCell ⟨g, x, none⟩ v).cell? ⟨wa.heap.size, s, none⟩ = some (.int .i64 (x : Int)) := fun v => ((Mod.refl (fun k => k = g) wr).setCell _ _ (fun _ => rfl)).cell cT (fun e => by simp at e; omega)
            go_wp2
            go_region_held3
 (fun w' => w'.cell? ⟨wa.heap.size, s, none⟩ = some (.int .i64 (x : Int)))
              (first | go_keep | exact cT | exact cT2 _)
              (first | (go_at_call 84; go_must (refine (field_dead 3 hR.drew hne).mono ?_); rintro e1 w1 ⟨rfl, rfl⟩))
            go_wp2
            exact ⟨Fin.out wr.drew ax tx ox ex 0 (Stp.refl p wr ax).drew hR.drew (by omega) (.inr ⟨hne, HF.out⟩), by simp [intOf]; omega⟩
        · have hse
 : s = 4 + i := by omega
          subst hse
          have hst := Hst.out
          rw [Nat.sub_self] at hst
          have hst : (ex = 0 ∧ 257 + j ≤ 286 ∧ 1 + k ≤ 30 ∧ dyn3 j k cs b m tx ox = σ) ∨ (ex ≠ 0 ∧ σ = .no ex) := hst
          have d1 : decide (((4 + i : Nat) : Int) < 4 + i) = false := by simp
          clear Hst hs
          obtain ⟨cc, c01, c11, c21, c31, c41, f11, f21, f41, -⟩ := hR.cells
          rcases hst with ⟨rfl, hb1, hb2, hF⟩ | ⟨hne, hF⟩
          · have hcs := Hcs.out
            have hc7 := Hc7.out
            have hK := check_any (some ⟨g, 0, none⟩) 19 19 cs wr (by omega) (fun x hx => Nat.le_trans (hc7 x hx) (by omega)) (by exact ho.ri)
            unfold ChkPost at hK
            have Hcs := Lib.hid hcs
            clear hcs hc7
            by_cases hgood : checkP cs = (true, 0)
            · rw [hgood] at hK
              unfold dyn3 at hF
              rw [if_pos hgood] at hF
              have hok : (checkP cs).2 = 0 := by rw [hgood]
              obtain ⟨n, hn⟩ : ∃ n, n = 257 + j + (1 + k) := ⟨_, rfl⟩
              rw [← hn] at hF
              have Hn := Lib.hid hn
              have hn316 : n ≤ 316 := by omega
              have hni : (257 + (j : Int) + (1 + (k : Int))) = (n : Int) := by omega
              have Hok := Lib.hid hok
              clear hgood hok hn
              cases hl : lensGo cs n n [] b m tx ox with
              | no e =>
                have he := errs_lens cs n n [] hl
                rw [bnd_no hl] at hF
                subst hF
                have d3 : ((e : Int) != 0) = true := by simp; omega
                go_wp2_with (first
                  | (go_at_call 89; go_must (refine hK.mono ?_); rintro e1 w6 ⟨rfl, hb6⟩
                     have hR6 := hR.new hb6
                     have hz6 := hb6.size
                     have ho6 : OI w6 w.heap.size (some ⟨g, 0, none⟩) 19 19 (natI cs) := own_mod ho (Mod.of_below hb6) (fun q hq e => by have := (own_blk ho q hq).2; omega)
                     have hC6 : Code p w6 ax (some ⟨g, 0, none⟩) 19 19 cs := ⟨fun w' a' hS' => OI.ri (code_of_own hR6 ho6 hplt w' a' hS'), by have := Hcs.out; omega, fun x hx => Nat.le_trans (Hc7.out x hx) (by omega), Hok.out⟩
                     have hL := lengths_live (n := n) hR6 hC6 (by have := Hcs.out; omega) hn316
                     rw [hl] at hL)
                  | (go_at_call 102; go_must (refine hL.mono ?_); rintro e1 w7 ⟨v7, a7, t7, o7, rfl, hS7, hR7⟩
                     obtain ⟨cc7, c07, c17, c27, c37, c47, f17, f27, f47, -⟩ := hR7.cells))
                go_ret2
                exact ⟨_, _, a7, t7, o7, rfl, (hS.trans (Stp.of_below hb6)).trans hS7, hR7⟩
              | ok l t7 o7 =>
                have hln := lens_len n (Nat.zero_le _) (by simp) hl
                rw [bnd_ok hl] at hF
                have HF := Lib.hid hF
                have Hln := Lib.hid hln
                clear hF hln
                go_upto_region 20 with (first
                  | (go_at_call 89; go_must (refine hK.mono ?_); rintro e1 w6 ⟨rfl, hb6⟩
                     have hR6 := hR.new hb6
                     have hz6 := hb6.size
                     have ho6 : OI w6 w.heap.size (some ⟨g, 0, none⟩) 19 19 (natI cs) := own_mod ho (Mod.of_below hb6) (fun q hq e => by have := (own_blk ho q hq).2; omega)
                     have hC6 : Code p w6 ax (some ⟨g, 0, none⟩) 19 19 cs := ⟨fun w' a' hS' => OI.ri (code_of_own hR6 ho6 hplt w' a' hS'), by have := Hcs.out; omega, fun x hx => Nat.le_trans (Hc7.out x hx) (by omega), Hok.out⟩
                     have hL := lengths_live (n := n) hR6 hC6 (by have := Hcs.out; omega) hn316
                     rw [hl] at hL)
                  | (go_at_call 102; go_must (refine hL.mono ?_); rintro e1 w7 ⟨al, cl, a7, rfl, ho7, h15, hS7, hR7⟩
                     obtain ⟨cc7, c07, c17, c27, c37, c47, f17, f27, f47, -⟩ := hR7.cells))
                have hS7 := (hS.trans (Stp.of_below hb6)).trans hS7
                have ho7 : OI w7 w.heap.size al l.length cl (natI l) := own_mono ho7 (by have := hS.mod.size; omega)
                have hll : l.length = 257 + j + (1 + k) := by rw [Hln.out, Hn.out]
                have hcl := ho7.ri.le
                have Hll := Lib.hid hll
                have hlb1 : 257 + j < l.length := by omega
                have hlb2 : l.length ≤ 316 := by omega
                clear hll
                have hsl1 := fun w => slice53_h w al l.length cl (257 + j) .i64 (257 + (j : Int)) (by omega) (by omega)
                have hadv : adv al cl (257 + j) = al.map (fun x => x.add (257 + j)) := by unfold adv; rw [if_neg (by omega)]
                have hsl2 := fun w => slice53_l w al l.length cl (257 + j) .i64 (257 + (j : Int)) (by omega) (by omega)
                simp only [hadv] at hsl2
                have Hadv := Lib.hid hadv
                clear hadv
                clear hK hS hR ho hC6 hL hl c01 c11 c21 c31 c41 f11 f21 f41 c07 c17 c27 c37 c47 f17 f27 f47 hb6 hR6 ho6 hT
                go_quiet (fail)
                clear hsl1 hsl2
                obtain ⟨w8, hw8, hS8, hR8, ho8⟩ : ∃ w8, w8 = w7.drewN nq ∧ Stp p w a w8 a7 ∧ Rr p B a0 cap b m w8 t7 o7 0 a7 ∧ OI w8 w.heap.size al l.length cl (natI l) := ⟨_, rfl, hS7.drewN nq, hR7.drewN nq, ho7⟩
                rw [← hw8]
                clear hw8 hS7 hR7 ho7
                have hall := code_of_own hR8 ho8 hplt
                obtain ⟨nD, hnD⟩ : ∃ nD, nD = l.length - (257 + j) := ⟨_, rfl⟩
                have hll := Hll.out
                have hnD9 : nD ≤ 30 := by omega
                rw [← hnD]
                have HnD := Lib.hid hnD
                have hriL : ∀ w' a', Stp p w8 a7 w' a' → RI w' al (257 + j) cl (natI (l.take (257 + j))) := fun w' a' hS' => ri_h (OI.ri (hall w' a' hS')) (by omega)
                have hriD : ∀ w' a', Stp p w8 a7 w' a' → RI w' (al.map (fun x => x.add (257 + j))) nD (cl - (257 + j)) (natI (l.drop (257 + j))) := fun w' a' hS' => by rw [hnD, ← Hadv.out]; exact ri_l (OI.ri (hall w' a' hS')) (by omega)
                obtain ⟨aD, haD⟩ : ∃ aD, aD = al.map (fun x => x.add (257 + j)) := ⟨_, rfl⟩
                obtain ⟨cD, hcD⟩ : ∃ cD, cD = cl - (257 + j) := ⟨_, rfl⟩
                rw [← haD, ← hcD] at hriD ⊢
                have hlL : (l.take (257 + j)).length = 257 + j := by simp; omega
                have hlD : (l.drop (257 + j)).length = nD := by simp; omega
                have h15L : ∀ x ∈ l.take (257 + j), x ≤ 15 := fun x hx => h15 x (List.mem_of_mem_take hx)
                have h15D : ∀ x ∈ l.drop (257 + j), x ≤ 15 := fun x hx => h15 x (List.mem_of_mem_drop hx)
                have hF := HF.out
                unfold dyn4 at hF
                have HF := Lib.hid hF
                clear hF hnD hll hall hcl Hln HnD Hn hni Hll hlb1 hlb2 Hadv haD hcD

                generalize l.take (257 + j) = L at *
                generalize l.drop (257 + j) = D at *
                obtain ⟨nL, hnL⟩ : ∃ nL, nL = 257 + j := ⟨_, rfl⟩
                rw [← hnL] at hlL hriL ⊢
                have hnL9 : 257 ≤ nL ∧ nL ≤ 286 := by omega
                have HlL := Lib.hid hlL
                have HlD := Lib.hid hlD
                have H15L := Lib.hid h15L
                have H15D := Lib.hid h15D
                have HriL := Lib.hid hriL
                have HriD := Lib.hid hriD
                clear hlL hlD h15L h15D hriL hriD hnL h15
                have hKL := check_any al nL cl L w8 (by have := HlL.out; omega) H15L.out (HriL.out w8 a7 (Stp.refl _ _ _))
                unfold ChkPost at hKL
                rcases hkl : checkP L with ⟨whL, eL⟩
                rw [hkl] at hKL
                have hokL : okLit L = (decide (eL = 0) && !decide (atN L 256 = 0) && (whL || lone L)) := by unfold okLit; rw [hkl]
                have HokL := Lib.hid hokL
                have Hkl := Lib.hid hkl
                clear hkl hokL
                go_upto_region 22 with (go_at_call 89; go_must (refine hKL.mono ?_); rintro e1 w9 ⟨rfl, hb9⟩)
                have hS9 : Stp p w8 a7 w9 a7 := Stp.of_below hb9
                have hR9 := hR8.new hb9
                go_cut [109] from 15 (fun u wx => ∃ bb : Bool, u = .bool bb ∧ wx = w9 ∧ bb = !okLit L)
                case first =>
                  obtain ⟨b8, off8, hidx, hc⟩ := Rd.open (HriL.out w9 a7 hS9) 53 3 Try.underlying53 (by kernel_rfl)
                  have e1 := hc 256 (by rw [length_cI, natI_length]; have := HlL.out; omega)
                  rw [cI_get, atI_natI] at e1
                  have j1 := idx_in hidx .i64 256 256 rfl (by omega)
                  have hlo := lone_any al nL cl L w9 (by have := HlL.out; omega) H15L.out (HriL.out w9 a7 hS9)
                  clear hidx hc
                  by_cases he : eL = 0
                  · subst he
                    by_cases h0 : atN L 256 = 0
                    · have d1 : (((atN L 256 : Nat) : Int) == 0) = true := by rw [h0]; rfl
                      have E := Lib.hid (HokL.out.trans (show (decide (0 = 0) && !decide (atN L 256 = 0) && (whL || lone L)) = false by simp [h0]))
                      clear h0
                      go_wp2
                      go_meet
                      exact ⟨_, rfl, rfl, by rw [E.out]; rfl⟩
                    · have d1 : (((atN L 256 : Nat) : Int) == 0) = false := by rw [beq_eq_false_iff_ne]; omega
                      cases whL with
                      | true =>
                        have E := Lib.hid (HokL.out.trans (show (decide (0 = 0) && !decide (atN L 256 = 0) && (true || lone L)) = true by simp [h0]))
                        clear h0
                        go_wp2
                        go_meet
                        exact ⟨_, rfl, rfl, by rw [E.out]; rfl⟩
                      | false =>
                        have E := Lib.hid (HokL.out.trans (show (decide (0 = 0) && !decide (atN L 256 = 0) && (false || lone L)) = lone L by simp [h0]))
                        clear h0
                        generalize lone L = lo at *
                        go_wp2_with (go_at_call 103; go_must (refine hlo.mono ?_); rintro e2 w10 ⟨rfl, rfl⟩)
                        go_meet
                        exact ⟨_, rfl, rfl, by rw [E.out]⟩
                  · have d1 : ((eL : Int) != 0) = true := by simp; omega
                    have E := Lib.hid (HokL.out.trans (show (decide (eL = 0) && !decide (atN L 256 = 0) && (whL || lone L)) = false by simp [he]))
                    clear he
                    go_wp2
                    go_meet
                    exact ⟨_, rfl, rfl, by rw [E.out]; rfl⟩
                case rest =>
                obtain ⟨bb, rfl, hwx, hbb⟩ := hcut
                rw [← hwx] at hS9 hR9
                clear hwx hb9
                have Hbb := Lib.hid hbb
                clear hbb
                go_upto_if 109 with fail
                go_cut [] from 15 (fun wx => ∃ (a9 : Option Addr) (t9 : Nat) (o9 : List UInt8) (e9 : Nat), Stp p w8 a7 wx a9 ∧ Rr p B a0 cap b m wx t9 o9 e9 a9 ∧ ((e9 = 0 ∧ okLit L = true ∧ t9 = t7 ∧ o9 = o7) ∨ (e9 = 5 ∧ okLit L = false)))
                case first =>
                  cases hok : okLit L with
                  | true =>
                    have e : bb = false := by rw [Hbb.out, hok]; rfl
                    have Hok2 := Lib.hid hok
                    clear hok Hbb
                    subst e
                    go_wp2
                    go_meet
                    exact ⟨a7, t7, o7, 0, hS9, hR9, .inl ⟨rfl, Hok2.out, rfl, rfl⟩⟩
                  | false =>
                    have e : bb = true := by rw [Hbb.out, hok]; rfl
                    have Hok2 := Lib.hid hok
                    clear hok Hbb
                    subst e
                    go_wp2_with (go_at_call 88; go_must (refine (fails_live 5 hR9).mono ?_); rintro e3 w10 ⟨rfl, hS10, hR10⟩)
                    go_meet
                    exact ⟨a7, _, _, 5, hS9.trans hS10, hR10, .inr ⟨rfl, Hok2.out⟩⟩
                case rest =>
                obtain ⟨a9, t9, o9, e9, hS9, hR9, hst9⟩ := hcut
                obtain ⟨wd, hwd⟩ : ∃ wd, wd = wc := ⟨_, rfl⟩
                rw [← hwd] at hS9 hR9 ⊢
                clear hwd
                have hKD := check_any aD nD cD D wd (by have := HlD.out; omega) H15D.out (HriD.out wd a9 hS9)
                unfold ChkPost at hKD
                rcases hkd : checkP D with ⟨whD, eD⟩
                rw [hkd] at hKD
                have hokD : okDist D = (decide (eD = 0) && (whD || lone D || noneB D)) := by unfold okDist; rw [hkd]
                have HokD := Lib.hid hokD
                have Hkd := Lib.hid hkd
                have Hst9 := Lib.hid hst9
                clear hkd hokD hst9
                go_upto_region 25 with (go_at_call 89; go_must (refine hKD.mono ?_); rintro e1 w11 ⟨rfl, hb11⟩)
                have hS11 : Stp p w8 a7 w11 a9 := hS9.trans (Stp.of_below hb11)
                have hR11 := hR9.new hb11
                go_cut [132] from 15 (fun u wx => ∃ bb : Bool, u = .bool bb ∧ wx = w11 ∧ bb = !okDist D)
                case first =>
                  have hlo := lone_any aD nD cD D w11 (by have := HlD.out; omega) H15D.out (HriD.out w11 a9 hS11)
                  have hno := none_any aD nD cD D w11 (by have := HlD.out; omega) (HriD.out w11 a9 hS11)
                  by_cases he : eD = 0
                  · subst he
                    cases whD with
                    | true =>
                      have E := Lib.hid (HokD.out.trans (show (decide (0 = 0) && (true || lone D || noneB D)) = true by simp))
                      go_wp2
                      go_meet
                      exact ⟨_, rfl, rfl, by rw [E.out]; rfl⟩
                    | false =>
                      have E := Lib.hid (HokD.out.trans (show (decide (0 = 0) && (false || lone D || noneB D)) = (lone D || noneB D) by simp))
                      generalize lone D = lo at *
                      generalize noneB D = nb at *
                      cases lo with
                      | true =>
                        go_wp2_with (go_at_call 103; go_must (refine hlo.mono ?_); rintro e2 w12 ⟨rfl, rfl⟩)
                        go_meet
                        exact ⟨_, rfl, rfl, by rw [E.out]; rfl⟩
                      | false =>
                        go_wp2_with (first
                          | (go_at_call 103; go_must (refine hlo.mono ?_); rintro e2 w12 ⟨rfl, rfl⟩)
                          | (go_at_call 104; go_must (refine hno.mono ?_); rintro e2 w12 ⟨rfl, rfl⟩))
                        go_meet
                        exact ⟨_, rfl, rfl, by rw [E.out]; rfl⟩
                  · have d1 : ((eD : Int) != 0) = true := by simp; omega
                    have E := Lib.hid (HokD.out.trans (show (decide (eD = 0) && (whD || lone D || noneB D)) = false by simp [he]))
                    clear he
                    go_wp2
                    go_meet
                    exact ⟨_, rfl, rfl, by rw [E.out]; rfl⟩
                case rest =>
                obtain ⟨bb, rfl, hwx, hbb⟩ := hcut
                rw [← hwx] at hS11 hR11
                clear hwx hb11
                have Hbb := Lib.hid hbb
                clear hbb
                go_upto_if 132 with fail
                have hSf := hS8.trans hS11
                rcases Hst9.out with ⟨h90, hokL, ht9, ho9⟩ | ⟨h95, hokL⟩
                · subst h90 ht9 ho9
                  cases hokD : okDist D with
                  | true =>
                    have e : bb = false := by rw [Hbb.out, hokD]; rfl
                    have hF := HF.out
                    rw [hokL, hokD] at hF
                    have hF : R.ok (L, D) t9 o9 = σ := hF
                    have hc1 : (checkP L).2 = 0 := by unfold okLit at hokL; simp at hokL; exact hokL.1.1
                    have hc2 : (checkP D).2 = 0 := by unfold okDist at hokD; simp at hokD; exact hokD.1
                    have Hc1 := Lib.hid hc1
                    have Hc2 := Lib.hid hc2
                    clear HF HokL HokD Hbb Hst9 hokL hokD hc1 hc2
                    subst hF e
                    go_wp2
                    go_ret2
                    refine ⟨al, nL, cl, aD, nD, cD, a9, rfl, ⟨fun w' a' h2 => HriL.out w' a' (hS11.trans h2), ?_, H15L.out, Hc1.out⟩, ⟨fun w' a' h2 => HriD.out w' a' (hS11.trans h2), ?_, H15D.out, Hc2.out⟩, hSf, hR11⟩
                    · show L.length ≤ 320; have := HlL.out; omega
                    · show D.length ≤ 320; have := HlD.out; omega
                  | false =>

                    have e : bb = true := by rw [Hbb.out, hokD]; rfl
                    have hF := HF.out
                    rw [hokL, hokD] at hF
                    have hF : R.no 5 = σ := hF
                    clear HF HokL HokD Hbb Hst9 hokL hokD
                    subst hF e
                    go_wp2_with (go_at_call 88; go_must (refine (fails_live 5 hR11).mono ?_); rintro e3 w12 ⟨rfl, hS12, hR12⟩)
                    go_ret2
                    exact ⟨_, _, a9, _, _, rfl, hSf.trans hS12, hR12⟩
                · subst h95
                  have hF := HF.out
                  rw [hokL] at hF
                  have hF : R.no 5 = σ := hF
                  cases hokD : okDist D with
                  | true =>
                    have e : bb = false := by rw [Hbb.out, hokD]; rfl
                    clear HF HokL HokD Hbb Hst9 hokL hokD
                    subst hF e
                    go_wp2
                    go_ret2
                    exact ⟨_, _, a9, _, _, rfl, hSf, hR11⟩
                  | false =>
                    have e : bb = true := by rw [Hbb.out, hokD]; rfl
                    clear HF HokL HokD Hbb Hst9 hokL hokD
                    subst hF e
                    go_wp2_with (go_at_call 88; go_must (refine (fails_dead 5 hR11 (by decide)).mono ?_); rintro e3 w12 ⟨rfl, rfl⟩)
                    go_ret2
                    exact ⟨_, _, a9, _, _, rfl, hSf, hR11⟩




            · unfold dyn3 at hF
              rw [if_neg hgood] at hF
              subst hF
              rcases hck : checkP cs with ⟨wh, ek⟩
              rw [hck] at hK hgood
              clear hck
              simp only [Prod.mk.injEq, not_and] at hgood
              by_cases hek : ek = 0
              · subst hek
                have hwh : wh = false := by
                  cases wh with
                  | false => rfl
                  | true => exact absurd rfl (hgood rfl)
                subst hwh
                clear hgood
                go_wp2_with (first
                  | (go_at_call 89; go_must (refine hK.mono ?_); rintro e1 w6 ⟨rfl, hb6⟩
                     have hR6 := hR.new hb6)
                  | (go_at_call 88; go_must (refine (fails_live 5 hR6).mono ?_); rintro e3 w7 ⟨rfl, hS7, hR7⟩))
                go_ret2
                exact ⟨_, _, ax, _, _, rfl, (hS.trans (Stp.of_below hb6)).trans hS7, hR7⟩
              · have d3 : ((ek : Int) != 0) = true := by simp; omega
                clear hgood
                go_wp2_with (first
                  | (go_at_call 89; go_must (refine hK.mono ?_); rintro e1 w6 ⟨rfl, hb6⟩
                     have hR6 := hR.new hb6)
                  | (go_at_call 88; go_must (refine (fails_live 5 hR6).mono ?_); rintro e3 w7 ⟨rfl, hS7, hR7⟩))
                go_ret2
                exact ⟨_, _, ax, _, _, rfl, (hS.trans (Stp.of_below hb6)).trans hS7, hR7⟩
          · have d3 : ((ex : Int) != 0) = true := by simp; omega
            subst hF
            go_wp2
            go_ret2
            exact ⟨_, _, ax, tx, ox, rfl, hS, hR⟩

end
end Go.Proofs.Ytpfalaghggjbjaa
