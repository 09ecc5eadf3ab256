/-
  The walks of inflate.Fixed and sluicegateref04.Fixed: the lengths of the fixed codes.
  Conditions: none.
-/
import Derived.Test.YtpfalaghggjbjaaWA
import Derived.BigRegion
import Derived.Deep.CutRange
namespace Go.Proofs.Ytpfalaghggjbjaa
open Go.RowKit

def FixPost (w : World) (e : Ending) (w' : World) : Prop :=
  ∃ a c a' c', e = .returned (.tuple #[.slice a 288 c, .slice a' 32 c']) ∧ OI w' w.heap.size a 288 c (natI fixL) ∧ OI w' w.heap.size a' 32 c' (natI fixD) ∧ Below w.heap.size w w'

theorem replicate_natI (n : Nat) (x : Nat) : natI (List.replicate (n + 1) x) = natI (List.replicate n x) ++ [(x : Int)] := by
  rw [List.replicate_succ', natI_append]; rfl

set_option maxRecDepth 100000 in
set_option maxHeartbeats 2000000 in
theorem fixed_any (w : World) : Calls Try.prog 59 #[] w (FixPost w) := by
  go_enter Try.func59, Try.ntmps59
  go_wp2
  go_loopw [0, 4] (fun v u wr => ∃ (i c : Nat) (a : Option Addr), v = .slice a i c ∧ u = .int .i64 i ∧ i ≤ 288 ∧ OI wr w.heap.size a i c (natI (fixT i)) ∧ Below w.heap.size w wr) (fun _ u _ => 288 - (intOf u).toNat)
  case atStart => exact ⟨0, 0, none, rfl, rfl, by omega, World.ownsRow_nil _ _ _ _, Below.refl _ _⟩
  case round =>
    obtain ⟨i, c, a, rfl, rfl, hi, hown, hbel⟩ := hrel
    have hsz := hbel.size
    have hbb := fun g hg => (hown.blk g hg).1
    by_cases hlt : i < 288
    · have hsucc := fixT_succ i
      have Hsucc := Lib.hid hsucc
      clear hsucc
      have hf : (i < 144 ∧ fixAt i = 8) ∨ (144 ≤ i ∧ i < 256 ∧ fixAt i = 9) ∨ (256 ≤ i ∧ i < 280 ∧ fixAt i = 7) ∨ (280 ≤ i ∧ fixAt i = 8) := by unfold fixAt; split <;> (try split) <;> (try split) <;> omega
      have d : decide ((i : Int) < 288) = true := by simp; omega
      rcases hf with ⟨h1, h2⟩ | ⟨h1, h2, h3⟩ | ⟨h1, h2, h3⟩ | ⟨h1, h2⟩
      · have Hf := Lib.hid h2
        clear h2
        go_wp2_with (at_builtin; go_must (refine wpList_appI rfl _ _ rfl w.heap.size a i c (natI (fixT i)) rfl (hown.alloc _) _ 1 1 [8] rfl (ri_new _ _ _ _ rfl) (by omega) (by simp; omega) ?_); intro a' c' w1 hown1 hgrew)
        go_roundw
        case rel => exact ⟨i + 1, c', a', rfl, by go_num, by omega, by rw [Hsucc.out, natI_append, Hf.out]; exact hown1, below_grew (hbel.alloc (by omega) _) hgrew (by simp; omega) hbb⟩
        case measure => simp [intOf]; omega
      · have Hf := Lib.hid h3
        clear h3
        go_wp2_with (at_builtin; go_must (refine wpList_appI rfl _ _ rfl w.heap.size a i c (natI (fixT i)) rfl (hown.alloc _) _ 1 1 [9] rfl (ri_new _ _ _ _ rfl) (by omega) (by simp; omega) ?_); intro a' c' w1 hown1 hgrew)
        go_roundw
        case rel => exact ⟨i + 1, c', a', rfl, by go_num, by omega, by rw [Hsucc.out, natI_append, Hf.out]; exact hown1, below_grew (hbel.alloc (by omega) _) hgrew (by simp; omega) hbb⟩
        case measure => simp [intOf]; omega
      · have Hf := Lib.hid h3
        clear h3
        go_wp2_with (at_builtin; go_must (refine wpList_appI rfl _ _ rfl w.heap.size a i c (natI (fixT i)) rfl (hown.alloc _) _ 1 1 [7] rfl (ri_new _ _ _ _ rfl) (by omega) (by simp; omega) ?_); intro a' c' w1 hown1 hgrew)
        go_roundw
        case rel => exact ⟨i + 1, c', a', rfl, by go_num, by omega, by rw [Hsucc.out, natI_append, Hf.out]; exact hown1, below_grew (hbel.alloc (by omega) _) hgrew (by simp; omega) hbb⟩
        case measure => simp [intOf]; omega
      · have Hf := Lib.hid h2
        clear h2
        go_wp2_with (at_builtin; go_must (refine wpList_appI rfl _ _ rfl w.heap.size a i c (natI (fixT i)) rfl (hown.alloc _) _ 1 1 [8] rfl (ri_new _ _ _ _ rfl) (by omega) (by simp; omega) ?_); intro a' c' w1 hown1 hgrew)
        go_roundw
        case rel => exact ⟨i + 1, c', a', rfl, by go_num, by omega, by rw [Hsucc.out, natI_append, Hf.out]; exact hown1, below_grew (hbel.alloc (by omega) _) hgrew (by simp; omega) hbb⟩
        case measure => simp [intOf]; omega
    · have hil : i = 288 := by omega
      subst hil
      rw [show ((288 : Nat) : Int) = 288 from rfl]
      go_wp2
      obtain ⟨wo, rfl⟩ : ∃ wo : World, wo = wr := ⟨_, rfl⟩
      go_loopw [1, 26] (fun v u wy => ∃ (k c' : Nat) (a' : Option Addr), v = .slice a' k c' ∧ u = .int .i64 k ∧ k ≤ 32 ∧ OI wy wo.heap.size a' k c' (natI (List.replicate k 5)) ∧ OI wy w.heap.size a 288 c (natI (fixT 288)) ∧ Below wo.heap.size wo wy) (fun _ u _ => 32 - (intOf u).toNat)
      case atStart => exact ⟨0, 0, none, rfl, rfl, by omega, World.ownsRow_nil _ _ _ _, hown, Below.refl _ _⟩
      case round =>
        obtain ⟨k, c', a', rfl, rfl, hk, hown', hownL, hby⟩ := hrel
        have hszy := hby.size
        have hbb' := fun g hg => (hown'.blk g hg).1
        have hbo := fun g hg => (hown.blk g hg).2
        by_cases hlt2 : k < 32
        · have d : decide ((k : Int) < 32) = true := by simp; omega
          go_wp2_with (at_builtin; go_must (refine wpList_appI rfl _ _ rfl wo.heap.size a' k c' (natI (List.replicate k 5)) rfl (hown'.alloc _) _ 1 1 [5] rfl (ri_new _ _ _ _ rfl) (by omega) (by simp; omega) ?_); intro a'' c'' w1 hown1 hgrew)
          go_roundw
          case rel => exact ⟨k + 1, c'', a'', rfl, by go_num, by omega, by rw [replicate_natI]; exact hown1, own_mod (hownL.alloc _) hgrew.mod (fun g hg h => by have := hbb' g h; have := hbo g hg; omega), below_grew (hby.alloc (by omega) _) hgrew (by simp; omega) hbb'⟩
          case measure => simp [intOf]; omega
        · have hil : k = 32 := by omega
          subst hil
          go_wp2
          go_ret2
          exact ⟨a, c, a', c', rfl, hownL, own_mono hown' hsz, hbel.trans (hby.mono hsz)⟩

/-- make([]int, n), as an equation. -/
theorem run_makeI (w : World) (n : Nat) (hn : n ≤ 1099511627776) : (Instr.makeSlice 53 (.int .i64 (n : Int)) (.int .i64 (n : Int))).run Try.prog w = .ok (.slice (some ⟨w.heap.size, 0, none⟩) n n) (w.alloc (.cells (aI (List.replicate n 0)) 3)) := by
  obtain ⟨i, hi, hz0, hz1, hz2⟩ := info_parts info3
  rw [run_make (P := Try.prog) w 53 3 i (.int .i64 0) Try.underlying53 hi hz0 .i64 .i64 (n : Int) (n : Int) (by omega) (Int.le_refl _) (by rw [hz2]; omega) (by omega)]
  have e : madeCells (Value.cells (.int .i64 0)) ((n : Int).toNat * i.size) = aI (List.replicate n 0) := by
    apply Array.ext'
    rw [hz1, Int.toNat_natCast, made_zeros]
    simp [aI]
  rw [e, Int.toNat_natCast]
theorem oi_made (w : World) (B n : Nat) (hB : B ≤ w.heap.size) (hn : n ≤ 1099511627776) : OI (w.alloc (.cells (aI (List.replicate n 0)) 3)) B (some ⟨w.heap.size, 0, none⟩) n n (List.replicate n 0) :=
  ⟨by simp, .inr ⟨w.heap.size, n, aI (List.replicate n 0), rfl, hB, heap_alloc_new w _, Nat.le_refl _, by unfold maxLen; omega, by rw [aI_size]; simp, by simp [aI, cI]⟩⟩

set_option maxRecDepth 100000 in
set_option maxHeartbeats 4000000 in
theorem refFixed_any (w : World) : Calls Try.prog 75 #[] w (FixPost w) := by
  have hm1 : ∀ w' : World, (Instr.makeSlice 53 (.int .i64 288) (.int .i64 288)).run Try.prog w' = .ok (.slice (some ⟨w'.heap.size, 0, none⟩) 288 288) (w'.alloc (.cells (aI (List.replicate 288 0)) 3)) := fun w' => run_makeI w' 288 (by omega)
  have hm2 : ∀ w' : World, (Instr.makeSlice 53 (.int .i64 32) (.int .i64 32)).run Try.prog w' = .ok (.slice (some ⟨w'.heap.size, 0, none⟩) 32 32) (w'.alloc (.cells (aI (List.replicate 32 0)) 3)) := fun w' => run_makeI w' 32 (by omega)
  go_enter Try.func75, Try.ntmps75
  go_upto_region 1 with fail
  go_cut [2, 3] from 4 (fun u v wx => ∃ g h : Nat, u = .slice (some ⟨g, 0, none⟩) 288 288 ∧ v = .slice (some ⟨h, 0, none⟩) 32 32 ∧ g ≠ h ∧ OI wx w.heap.size (some ⟨g, 0, none⟩) 288 288 (natI (partT fixAt 288 0)) ∧ OI wx w.heap.size (some ⟨h, 0, none⟩) 32 32 (natI (partT (fun _ => 5) 32 0)) ∧ Below w.heap.size w wx)
  case first =>
    have z0 : natI (partT fixAt 288 0) = List.replicate 288 0 := by rw [partT_zero]; simp [natI]
    have z1 : natI (partT (fun _ => 5) 32 0) = List.replicate 32 0 := by rw [partT_zero]; simp [natI]
    have Hz0 := Lib.hid z0
    have Hz1 := Lib.hid z1
    clear z0 z1
    go_region
    · go_wp2
      go_meet
      rw [Hz0.out, Hz1.out]
      refine ⟨w.heap.size, w.heap.size + 1, rfl, rfl, by omega, ?_, ?_, (((Below.refl _ _).alloc (Nat.le_refl _) _).alloc (by simp) _).drew⟩
      · exact (oi_made w w.heap.size 288 (Nat.le_refl _) (by omega)).alloc _
      · have := oi_made (w.alloc (.cells (aI (List.replicate 288 0)) 3)) w.heap.size 32 (by simp) (by omega)
        rw [World.size_alloc] at this
        exact this
    · go_wp2
      go_meet
      rw [Hz0.out, Hz1.out]
      refine ⟨w.heap.size + 1, w.heap.size, rfl, rfl, by omega, ?_, ?_, (((Below.refl _ _).alloc (Nat.le_refl _) _).alloc (by simp) _).drew⟩
      · have := oi_made (w.alloc (.cells (aI (List.replicate 32 0)) 3)) w.heap.size 288 (by simp) (by omega)
        rw [World.size_alloc] at this
        exact this
      · exact (oi_made w w.heap.size 32 (Nat.le_refl _) (by omega)).alloc _
  case rest =>
    clear hm1 hm2
    obtain ⟨g, h, rfl, rfl, hgh, hL, hD, hbel⟩ := hcut
    have hBg := (hL.blk g rfl).1
    have hBh := (hD.blk h rfl).1
    go_wp2
    go_loopw [4] (fun u wr => ∃ i : Nat, u = .int .i64 i ∧ i ≤ 288 ∧ OI wr w.heap.size (some ⟨g, 0, none⟩) 288 288 (natI (partT fixAt 288 i)) ∧ OI wr w.heap.size (some ⟨h, 0, none⟩) 32 32 (natI (partT (fun _ => 5) 32 0)) ∧ Below w.heap.size w wr) (fun u _ => 288 - (intOf u).toNat)
    case atStart => exact ⟨0, rfl, by omega, hL, hD, hbel⟩
    case round =>
      obtain ⟨i, rfl, hi, hL, hD, hbel⟩ := hrel
      by_cases hlt : i < 288
      · obtain ⟨c0, f0⟩ := oi_cell hL hlt
        have hst := partT_step fixAt hlt
        have Hst := Lib.hid hst
        clear hst
        have hf : (i < 144 ∧ fixAt i = 8) ∨ (144 ≤ i ∧ i < 256 ∧ fixAt i = 9) ∨ (256 ≤ i ∧ i < 280 ∧ fixAt i = 7) ∨ (280 ≤ i ∧ fixAt i = 8) := by unfold fixAt; split <;> (try split) <;> (try split) <;> omega
        have d : decide ((i : Int) < 288) = true := by simp; omega
        have hL8 := oi_put hL hlt 8
        have hgh' : blk (some ⟨h, 0, none⟩) ≠ some (⟨g, i, none⟩ : Addr).block := by simp [blk]; omega
        obtain ⟨c1, f1⟩ := oi_cell hL8 (by simpa using hlt)
        have hL9 := oi_put hL8 hlt 9
        obtain ⟨c2, f2⟩ := oi_cell hL9 (by simpa using hlt)
        have hL7 := oi_put hL9 hlt 7
        obtain ⟨c3, f3⟩ := oi_cell hL7 (by simpa using hlt)
        rcases hf with ⟨h1, h2⟩ | ⟨h1, h2, h3⟩ | ⟨h1, h2, h3⟩ | ⟨h1, h2⟩
        · have Hf := Lib.hid h2
          clear h2
          go_wp2
          go_ways
          all_goals first
            | (exfalso; omega)
            | skip
          have hx := (oi_put hL hlt 8)
          refine ⟨⟨i + 1, by go_num, by omega, by rw [← Hst.out, Hf.out, natI_set]; (try rw [List.set_set] at hx); (try rw [List.set_set] at hx); (try rw [List.set_set] at hx); exact hx, (oi_set hD hgh' _), (hbel.setCell (by simp; omega) _)⟩, by simp [intOf]; omega⟩
        · have Hf := Lib.hid h3
          clear h3
          go_wp2
          go_ways
          all_goals first
            | (exfalso; omega)
            | skip
          have hx := (oi_put (oi_put hL hlt 8) hlt 9)
          refine ⟨⟨i + 1, by go_num, by omega, by rw [← Hst.out, Hf.out, natI_set]; (try rw [List.set_set] at hx); (try rw [List.set_set] at hx); (try rw [List.set_set] at hx); exact hx, (oi_set (oi_set hD hgh' _) hgh' _), ((hbel.setCell (by simp; omega) _).setCell (by simp; omega) _)⟩, by simp [intOf]; omega⟩
        · have Hf := Lib.hid h3
          clear h3
          go_wp2
          go_ways
          all_goals first
            | (exfalso; omega)
            | skip
          have hx := (oi_put (oi_put (oi_put hL hlt 8) hlt 9) hlt 7)
          refine ⟨⟨i + 1, by go_num, by omega, by rw [← Hst.out, Hf.out, natI_set]; (try rw [List.set_set] at hx); (try rw [List.set_set] at hx); (try rw [List.set_set] at hx); exact hx, (oi_set (oi_set (oi_set hD hgh' _) hgh' _) hgh' _), (((hbel.setCell (by simp; omega) _).setCell (by simp; omega) _).setCell (by simp; omega) _)⟩, by simp [intOf]; omega⟩
        · have Hf := Lib.hid h2
          clear h2
          go_wp2
          go_ways
          all_goals first
            | (exfalso; omega)
            | skip
          have hx := (oi_put (oi_put (oi_put (oi_put hL hlt 8) hlt 9) hlt 7) hlt 8)
          refine ⟨⟨i + 1, by go_num, by omega, by rw [← Hst.out, Hf.out, natI_set]; (try rw [List.set_set] at hx); (try rw [List.set_set] at hx); (try rw [List.set_set] at hx); exact hx, (oi_set (oi_set (oi_set (oi_set hD hgh' _) hgh' _) hgh' _) hgh' _), ((((hbel.setCell (by simp; omega) _).setCell (by simp; omega) _).setCell (by simp; omega) _).setCell (by simp; omega) _)⟩, by simp [intOf]; omega⟩
      · have hil : i = 288 := by omega
        subst hil
        rw [show ((288 : Nat) : Int) = 288 from rfl]
        go_wp2
        go_loopw [5] (fun u wy => ∃ k : Nat, u = .int .i64 k ∧ k ≤ 32 ∧ OI wy w.heap.size (some ⟨h, 0, none⟩) 32 32 (natI (partT (fun _ => 5) 32 k)) ∧ OI wy w.heap.size (some ⟨g, 0, none⟩) 288 288 (natI (partT fixAt 288 288)) ∧ Below w.heap.size w wy) (fun u _ => 32 - (intOf u).toNat)
        case atStart => exact ⟨0, rfl, by omega, hD, hL, hbel⟩
        case round =>
          obtain ⟨k, rfl, hk, hD, hL, hbel⟩ := hrel
          by_cases hlt : k < 32
          · obtain ⟨c0, f0⟩ := oi_cell hD hlt
            have hst := partT_step (fun _ => 5) hlt
            have d : decide ((k : Int) < 32) = true := by simp; omega
            have hgh' : blk (some ⟨g, 0, none⟩) ≠ some (⟨h, k, none⟩ : Addr).block := by simp [blk]; omega
            have Hst := Lib.hid hst
            clear hst
            go_wp2
            go_roundw
            case rel => exact ⟨k + 1, by go_num, by omega, by rw [← Hst.out, natI_set]; exact oi_put hD hlt 5, oi_set hL hgh' _, hbel.setCell (by simp; omega) _⟩
            case measure => simp [intOf]; omega
          · have hil : k = 32 := by omega
            subst hil
            rw [show ((32 : Nat) : Int) = 32 from rfl]
            rw [partT_all] at hD hL
            go_wp2
            go_ret2
            refine ⟨_, _, _, _, rfl, ?_, ?_, hbel⟩
            · exact hL
            · have e : (List.range 32).map (fun _ => 5) = fixD := by decide
              rw [e] at hD
              exact hD
end Go.Proofs.Ytpfalaghggjbjaa
