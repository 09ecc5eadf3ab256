/-
  The walk of huffman.Codes.
  Conditions: at most 320 lengths, each from 0 to 15, that may be a code.
-/
import Derived.Test.YtpfalaghggjbjaaWK
namespace Go.Proofs.Ytpfalaghggjbjaa
open Go.RowKit

/-- 'It hands back numbers in memory of its own, and no error; of what was there nothing has turned.' -/
def RetIE (w : World) (l : List Int) (e : Ending) (w' : World) : Prop :=
  ∃ a c, e = .returned (.tuple #[.slice a l.length c, .int .i64 0]) ∧ OI w' w.heap.size a l.length c l ∧ Below w.heap.size w w'

set_option maxRecDepth 100000 in
set_option maxHeartbeats 2000000 in
theorem codes_any (a : Option Addr) (N cap : Nat) (l : List Nat) (w : World) (hl : l.length ≤ 320) (h15 : ∀ x ∈ l, x ≤ 15) (hok : (checkP l).2 = 0) (h : RI w a N cap (natI l)) :
    Calls Try.prog 60 #[.slice a N cap] w (RetIE w (codesP l)) := by
  obtain rfl : N = l.length := by have := RI.len h; rw [natI_length] at this; exact this
  obtain ⟨b, off, hidx, hc⟩ := Rd.open h 53 3 Try.underlying53 (by kernel_rfl)
  have hcs : ∀ j, j < l.length → w.cell? ⟨b, off + j, none⟩ = some (.int .i64 ((atN l j : Nat) : Int)) := fun j hj => by
    rw [hc j (by simpa [natI_length] using hj), cI_get, atI_natI]
  have hi16 := Lib.hid (show (Try.prog.info? 116).map (·.size) = some (aI (natI (cnt l))).size by rw [aI_size, natI_length, cnt_length]; kernel_rfl)
  have hs16 := Lib.hid (show 16 = (aI (natI (cnt l))).size by rw [aI_size, natI_length, cnt_length])
  have hf17 : (firstsN (cnt l)).length = 17 := by rw [← firstsT_all, firstsT_length]
  have hi17 := Lib.hid (show (Try.prog.info? 119).map (·.size) = some (aI (natI (firstsN (cnt l)))).size by rw [aI_size, natI_length, hf17]; kernel_rfl)
  have hs17 := Lib.hid (show 17 = (aI (natI (firstsN (cnt l)))).size by rw [aI_size, natI_length, hf17])
  have hcn := Lib.hid (cnt_length l)
  have hcl : ∀ x ∈ cnt l, x ≤ 320 := fun x hx => Nat.le_trans (cnt_le l x hx) hl
  have hok' : ((checkP l).2 : Int) = 0 := by rw [hok]; rfl
  have Hok := Lib.hid hok
  clear hc hf17 hok
  go_enter Try.func60, Try.ntmps60
  go_wp2_with (first
    | (go_at_call 89; go_must (refine (check_any a l.length cap l _ hl h15 h).mono ?_); rintro e w1 ⟨rfl, hb1⟩)
    | (go_at_call 90; go_must (refine (counts_any a l.length cap l _ hl h15 (rd_below0 h (hb1.mono (Nat.le_refl _)))).mono ?_); rintro e w2 ⟨rfl, hb2⟩)
    | (refine wpList_store_row rfl 116 _ _ rfl w2.heap.size _ rfl rfl 116 _ (heap_alloc_new _ _) hi16.out hs16.out (aI_one _) ?_)
    | (refine wpList_load_row rfl 116 _ rfl w2.heap.size rfl 116 _ _ _ (setRow_heap _ _ _ _ _ _ (heap_alloc_new _ _)) Try.underlying116 rfl hi16.out ?_)
    | (go_at_call 91; go_must (refine (firsts_any (cnt l) _ hcn.out hcl).mono ?_); rintro e w3 ⟨rfl, hb3⟩)
    | (refine wpList_store_row rfl 119 _ _ rfl w3.heap.size _ rfl rfl 119 _ (heap_alloc_new _ _) hi17.out hs17.out (aI_one _) ?_)
    | (at_make; go_must (refine wpList_makeI rfl _ _ rfl (w3.heap.size + 1) l.length _ _ rfl rfl rfl rfl (by omega) (by rw [size_setRow1]; simp) ?_); intro w4 hown hm4))
  obtain ⟨g3, hg3⟩ : ∃ g3, g3 = w3.heap.size := ⟨_, rfl⟩
  have hb3' := hb3.size
  have hb2' := hb2.size
  have hb1' := hb1.size
  rw [size_setRow1, World.size_alloc] at hb3'
  have hgw : w.heap.size ≤ g3 := by omega
  have hown' : OI w4 (g3 + 1) (some ⟨g3 + 1, 0, none⟩) l.length l.length (List.replicate l.length 0) := by
    rw [size_setRow1, World.size_alloc, ← hg3] at hown
    exact hown
  have hA4 : w4.heap[g3]? = some (.cells (aI (natI (firstsN (cnt l)))) 119 (0, 0)) := by
    rw [hg3]
    exact heap_mod hm4 (setRow_heap _ _ _ _ _ _ (heap_alloc_new _ _)) id
  have hbel4 : Below w.heap.size w w4 := by
    have b2 : ∀ o, Below w.heap.size w ((w2.alloc o).setRow w2.heap.size (aI (natI (cnt l)))) := fun o => below_setRow1 (((hb1.trans (hb2.mono (by omega))).alloc (by omega) o)) (by omega : w.heap.size ≤ w2.heap.size) (aI (natI (cnt l)))
    exact below_mod (below_setRow1 (((b2 _).trans (hb3.mono (by rw [size_setRow1, World.size_alloc]; omega))).alloc (by omega) _) (by omega : w.heap.size ≤ w3.heap.size) _) hm4 (by rw [size_setRow1, World.size_alloc]; omega) (fun _ _ h => h.elim)
  rw [← hg3]
  clear hown hm4 hg3 hb3 hb2 hb1 hb1' hb2' hb3'
  rw [← codesT_zero] at hown'
  rw [← nextT_zero] at hA4
  go_loopw [32] (fun u wr => ∃ i : Nat, u = .int .i64 i ∧ i ≤ l.length ∧ OI wr (g3 + 1) (some ⟨g3 + 1, 0, none⟩) l.length l.length (codesT l i) ∧ wr.heap[g3]? = some (.cells (aI (natI (nextT l i))) 119 (0, 0)) ∧ Below w.heap.size w wr)
    (fun u _ => l.length - (intOf u).toNat)
  case atStart => exact ⟨0, rfl, by omega, hown', hA4, hbel4⟩
  case round =>
    obtain ⟨i, rfl, hi, hwn, hA, hbel⟩ := hrel
    by_cases hlt : i < l.length
    · have c0 := cell_below (hcs i hlt) hbel
      have hx15 : atN l i ≤ 15 := h15 _ (by unfold atN; rw [List.getD, List.getElem?_eq_getElem hlt]; exact List.getElem_mem hlt)
      obtain ⟨e1, f1⟩ := oi_cell hwn hlt
      by_cases hx0 : atN l i = 0
      · rw [hx0] at c0
        have hca : codeAt l i = -1 := by unfold codeAt; rw [if_pos hx0]
        have hst := codesT_step hlt
        rw [hca] at hst
        have hnx := nextT_same hlt hx0
        have Hst := Lib.hid hst
        have Hnx := Lib.hid hnx
        clear hst hnx hca hx0 hcs
        go_wp2
        go_roundw
        case rel => exact ⟨i + 1, by go_num, by omega, by rw [← Hst.out]; exact oi_put hwn hlt _, by rw [Hnx.out]; exact heap_set_other hA (fun h : g3 + 1 = g3 => by omega) _, hbel.setCell (show w.heap.size ≤ g3 + 1 by omega) _⟩
        case measure => simp [intOf]; omega
      · have hca : codeAt l i = ((atN (nextT l i) (atN l i) : Nat) : Int) := by unfold codeAt; rw [if_neg hx0, atN_nextT l i (by omega), if_neg hx0]
        have hst := codesT_step hlt
        rw [hca] at hst
        have hnx := nextT_step hlt (by omega) hx0
        have cA := arr_cellN hA (j := atN l i) (by rw [nextT_length]; omega)
        have fA := free_at (j := atN l i) hA
        have hyb : atN (nextT l i) (atN l i) ≤ 20971840 := by
          rw [atN_nextT l i (by omega), if_neg hx0]
          have h1 := Nat.le_trans (firstOf_le (cnt l) 320 (atN_le_of hcl) (atN l i)) (Nat.mul_le_mul_left 320 (Nat.pow_le_pow_right (by omega : 0 < 2) (by omega : atN l i ≤ 16)))
          have h2 := List.count_le_length (a := atN l i) (l := l.take i)
          simp at h2
          omega
        have Hst := Lib.hid hst
        have Hnx := Lib.hid hnx
        have hx1 : 0 < atN l i := by omega
        clear hst hnx hca hx0 hcs
        generalize atN l i = x at *
        generalize atN (nextT l i) x = y at *
        go_wp2
        go_roundw
        case rel =>
          refine ⟨i + 1, by go_num, by omega, ?_, ?_, ?_⟩
          · rw [← Hst.out]
            have h2 := oi_put (oi_put hwn hlt (-1)) hlt (y : Int)
            rw [List.set_set] at h2
            exact oi_set h2 (fun h => by simp [blk] at h) _
          · rw [← Hnx.out]
            exact arr_setN (heap_set_other (heap_set_other hA (fun h : g3 + 1 = g3 => by omega) _) (fun h : g3 + 1 = g3 => by omega) _) x _ (y + 1) (by omega)
          · exact ((hbel.setCell (show w.heap.size ≤ g3 + 1 by omega) _).setCell (show w.heap.size ≤ g3 + 1 by omega) _).setCell (show w.heap.size ≤ g3 by omega) _
        case measure => simp [intOf]; omega
    · have hil : i = l.length := by omega
      subst hil
      rw [codesT_all] at hwn
      have hcl2 : (codesP l).length = l.length := by simp [codesP]
      go_wp2
      go_ret2
      exact ⟨some ⟨g3 + 1, 0, none⟩, l.length, by rw [hcl2]; rfl, by rw [hcl2]; exact own_mono hwn (by omega), hbel⟩
end Go.Proofs.Ytpfalaghggjbjaa
