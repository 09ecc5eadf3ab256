/-
  The walks of huffman.counts, huffman.firsts, huffman.Check.
  Conditions: at most 320 lengths, each from 0 to 15.
-/
import Derived.Test.YtpfalaghggjbjaaWA
import Derived.Deep.CutRange
namespace Go.Proofs.Ytpfalaghggjbjaa
open Go.RowKit

theorem results_cell_tmp {fn : Func} {p t : Tmp} {ty : TypeId} (h : fn.results = #[.cell p ty, .tmp t]) (tmps : Array Value) (w : World) (g : Nat) (e : TypeId) (cs : Array Value) (fr : Nat × Nat) (n k : Nat)
    (hp : tmps.getD p undef = .pointer (some ⟨g, 0, none⟩)) (hg : w.heap[g]? = some (.cells cs e fr))
    (hu : Try.prog.underlying ty = some (.array n k)) (hi : (Try.prog.info? ty).map (·.size) = some cs.size) :
    (results fn tmps).run Try.prog w = .ok (.tuple #[.agg cs, tmps.getD t undef]) w := by
  have hp' : tmps[p]?.getD undef = .pointer (some ⟨g, 0, none⟩) := by simpa using hp
  simp [results, h, hp', asAddr, run_loadVar_row w g e ty cs fr _ hg hu rfl hi]

theorem wrap64_id {x : Int} (h0 : -9223372036854775808 ≤ x) (h1 : x ≤ 9223372036854775807) : wrap64 x = x := IntWalk.wrap64_in _ ⟨h0, h1⟩

def CntPost (l : List Nat) (w : World) (e : Ending) (w' : World) : Prop := e = .returned (.tuple #[.agg (aI (natI (cnt l))), .int .i64 0]) ∧ Below w.heap.size w w'

set_option maxRecDepth 100000 in
set_option maxHeartbeats 2000000 in
theorem counts_any (a : Option Addr) (N cap : Nat) (l : List Nat) (w : World) (hl : l.length ≤ 320) (h15 : ∀ x ∈ l, x ≤ 15) (h : RI w a N cap (natI l)) :
    Calls Try.prog 90 #[.slice a N cap] w (CntPost l w) := by
  obtain rfl : N = l.length := by have := RI.len h; rw [natI_length] at this; exact this
  obtain ⟨b, off, hidx, hc⟩ := Rd.open h 53 3 Try.underlying53 (by kernel_rfl)
  have hcs : ∀ j, j < l.length → w.cell? ⟨b, off + j, none⟩ = some (.int .i64 ((atN l j : Nat) : Int)) := fun j hj => by
    rw [hc j (by simpa [natI_length] using hj), cI_get, atI_natI]
  have d1 : decide ((320 : Int) < l.length) = false := by simp; omega
  clear hc
  go_enter Try.func90, Try.ntmps90
  go_wp2
  have hz : (w.alloc (.cells #[.int .i64 0, .int .i64 0, .int .i64 0, .int .i64 0, .int .i64 0, .int .i64 0, .int .i64 0, .int .i64 0, .int .i64 0, .int .i64 0, .int .i64 0, .int .i64 0, .int .i64 0, .int .i64 0, .int .i64 0, .int .i64 0] 116)).heap.size = w.heap.size + 1 := by simp
  go_loopw [13] (fun u wr => ∃ i : Nat, u = .int .i64 i ∧ i ≤ l.length ∧ wr.heap[w.heap.size + 1]? = some (.cells (aI (natI (cnt (l.take i)))) 116 (0, 0)) ∧ wr.heap[w.heap.size]? = some (.cells (aI (natI (cnt []))) 116 (0, 0)) ∧ Below w.heap.size w wr)
    (fun u _ => l.length - (intOf u).toNat)
  case atStart =>
    refine ⟨0, rfl, by omega, ?_, heap_alloc (heap_alloc_new w _) _, ((Below.refl _ _).alloc (Nat.le_refl _) _).alloc (by simp) _⟩
    rw [← hz]; exact heap_alloc_new _ _
  case round =>
    obtain ⟨i, rfl, hi, hX, hR, hbel⟩ := hrel
    by_cases hlt : i < l.length
    · have c0 := cell_below (hcs i hlt) hbel
      have hx15 : atN l i ≤ 15 := h15 _ (by unfold atN; rw [List.getD, List.getElem?_eq_getElem hlt]; exact List.getElem_mem hlt)
      have c1 := arr_cellN hX (j := atN l i) (by rw [cnt_length]; omega)
      have f1 := free_at (j := atN l i) hX
      have hcl : atN (cnt (l.take i)) (atN l i) ≤ 320 := by rw [atN_cnt _ (by omega)]; have := List.count_le_length (a := atN l i) (l := l.take i); simp at this; omega
      have hn := cnt_snoc (l.take i) (atN l i) (by omega)
      rw [← take_atN hlt] at hn
      have Hn := Lib.hid hn
      clear hcs hn
      generalize atN l i = x at *
      generalize atN (cnt (l.take i)) x = y at *
      go_wp2
      go_roundw
      case rel => exact ⟨i + 1, by go_num, by omega, by rw [← Hn.out]; exact arr_setN hX x _ (y + 1) (by omega), heap_set_other hR (by simp) _, hbel.setCell (by simp) _⟩
      case measure => simp [intOf]; omega
    · have hil : i = l.length := by omega
      subst hil
      rw [List.take_length] at hX
      have hi16 : (Try.prog.info? 116).map (·.size) = some (aI (natI (cnt l))).size := by rw [aI_size, natI_length, cnt_length]; kernel_rfl
      have hold : (aI (natI (cnt []))).size = (aI (natI (cnt l))).size := by rw [aI_size, natI_length, cnt_length, aI_size, natI_length, cnt_length]
      go_wp2_with (first | (refine wpList_load_row rfl 116 _ rfl (w.heap.size + 1) rfl 116 _ _ _ hX Try.underlying116 rfl hi16 ?_) | (refine wpList_store_row rfl 116 _ _ rfl w.heap.size _ rfl rfl 116 _ hR hi16 hold (aI_one _) ?_))
      exact bodyPost_ret (results_cell_tmp Try.results90 _ _ w.heap.size 116 _ (0, 0) 16 3 rfl (setRow_heap _ _ _ _ _ _ hR) Try.underlying116 hi16) rfl ⟨rfl, below_setRow1 hbel (Nat.le_refl _) _⟩

def FirstPost (c : List Nat) (w : World) (e : Ending) (w' : World) : Prop := e = .returned (.agg (aI (natI (firstsN c)))) ∧ Below w.heap.size w w'

set_option maxRecDepth 100000 in
set_option maxHeartbeats 2000000 in
theorem firsts_any (c : List Nat) (w : World) (hl : c.length = 16) (hc : ∀ x ∈ c, x ≤ 320) :
    Calls Try.prog 91 #[.agg (aI (natI c))] w (FirstPost c w) := by
  have h00 : (aI (natI c))[0]? = some (.int .i64 ((atN c 0 : Nat) : Int)) := by rw [aI_get _ (by rw [natI_length]; omega), atI_natI]
  have hfl : ∀ i, i ≤ 16 → firstOf c i ≤ 20971520 := fun i hi => Nat.le_trans (firstOf_le c 320 (atN_le_of hc) i) (Nat.le_trans (Nat.mul_le_mul_left 320 (Nat.pow_le_pow_right (by omega) hi)) (by decide))
  have hz1 : (w.alloc (.cells ((aI (natI c)).setIfInBounds 0 (.int .i64 0)) 116)).heap.size = w.heap.size + 1 := by simp
  have hz2 : ((w.alloc (.cells ((aI (natI c)).setIfInBounds 0 (.int .i64 0)) 116)).alloc (.cells (aI (natI (List.replicate 17 0))) 119)).heap.size = w.heap.size + 1 + 1 := by simp
  go_enter Try.func91, Try.ntmps91
  go_wp2
  go_loopw [4] (fun u wr => ∃ i : Nat, u = .int .i64 i ∧ 1 ≤ i ∧ i ≤ 16 ∧ wr.heap[w.heap.size + 1 + 1]? = some (.cells (aI (natI (firstsT c i))) 119 (0, 0)) ∧ wr.heap[w.heap.size]? = some (.cells (aI (natI (c.set 0 0))) 116 (0, 0)) ∧
      wr.heap[w.heap.size + 1]? = some (.cells (aI (natI (List.replicate 17 0))) 119 (0, 0)) ∧ Below w.heap.size w wr)
    (fun u _ => 17 - (intOf u).toNat)
  case atStart =>
    refine ⟨1, rfl, by omega, by omega, ?_, ?_, ?_, (((Below.refl _ _).alloc (Nat.le_refl _) _).alloc (by simp) _).alloc (by simp; omega) _⟩
    · rw [firstsT_one, ← hz2]; exact heap_alloc_new _ _
    · refine heap_alloc (heap_alloc ?_ _) _
      rw [natI_set, ← aI_set]; exact heap_alloc_new _ _
    · refine heap_alloc ?_ _
      rw [← hz1]; exact heap_alloc_new _ _
  case round =>
    obtain ⟨i, rfl, hi1, hi, hX, hC, hR, hbel⟩ := hrel
    by_cases hlt : i < 16
    · have c0 := arr_cellN hX (j := i) (by rw [firstsT_length]; omega)
      have c1 := arr_cellN hX (j := i + 1) (by rw [firstsT_length]; omega)
      have c2 := arr_cellN hC (j := i) (by rw [List.length_set]; omega)
      have f1 := free_at (j := i + 1) hX
      have e0 : atN (firstsT c i) i = firstOf c i := by rw [atN_firstsT c (by omega), if_pos (Nat.le_refl _)]
      have e2 : atN (c.set 0 0) i = atN c i := by unfold atN; rw [List.getD, List.getD, List.getElem?_set_ne (by omega)]
      rw [e0] at c0
      rw [e2] at c2
      have hn := firstsT_step c hi1 hlt
      have Hn := Lib.hid hn
      have b1 := hfl i (by omega)
      have b2 := atN_le_of hc i
      have d : decide ((i : Int) ≤ 15) = true := by simp; omega
      clear hn e0 e2 h00 hfl hc hz1 hz2
      generalize atN c i = x at *
      generalize firstOf c i = y at *
      go_wp2
      go_region
      go_wp2
      go_roundw
      case rel => exact ⟨i + 1, by go_num, by omega, by omega, by rw [← Hn.out]; exact arr_setN hX (i + 1) _ ((y + x) * 2) (by omega), heap_set_other hC (fun h : w.heap.size + 1 + 1 = w.heap.size => by omega) _, heap_set_other hR (fun h : w.heap.size + 1 + 1 = w.heap.size + 1 => by omega) _, (hbel.setCell (show w.heap.size ≤ w.heap.size + 1 + 1 by omega) _).drew⟩
      case measure => simp [intOf]; omega
    · have hil : i = 16 := by omega
      subst hil
      rw [firstsT_all] at hX
      have hi17 : (Try.prog.info? 119).map (·.size) = some (aI (natI (firstsN c))).size := by rw [aI_size, natI_length, ← firstsT_all, firstsT_length]; kernel_rfl
      have hold : (aI (natI (List.replicate 17 0))).size = (aI (natI (firstsN c))).size := by rw [aI_size, natI_length, aI_size, natI_length, ← firstsT_all, firstsT_length]; rfl
      clear h00 hfl hc hz1 hz2
      go_wp2_with (first | (refine wpList_load_row rfl 119 _ rfl (w.heap.size + 1 + 1) rfl 119 _ _ _ hX Try.underlying119 rfl hi17 ?_) | (refine wpList_store_row rfl 119 _ _ rfl (w.heap.size + 1) _ rfl rfl 119 _ hR hi17 hold (aI_one _) ?_))
      exact bodyPost_ret (results_cell_row Try.results91 _ _ (w.heap.size + 1) 119 _ (0, 0) _ rfl (setRow_heap _ _ _ _ _ _ hR) Try.underlying119 rfl hi17) rfl ⟨rfl, below_setRow1 hbel (by omega) _⟩

def ChkPost (l : List Nat) (w : World) (e : Ending) (w' : World) : Prop := e = .returned (.tuple #[.bool (checkP l).1, .int .i64 ((checkP l).2 : Int)]) ∧ Below w.heap.size w w'

theorem sumT_le (l : List Nat) (h : ∀ x ∈ l, x ≤ 15) (hl : l.length ≤ 320) : ∀ k, sumT l k ≤ k * 5242880
  | 0 => by simp [sumT]
  | k + 1 => by
    have ih := sumT_le l h hl k
    have h1 : l.count (k + 1) ≤ 320 := Nat.le_trans List.count_le_length hl
    have h2 : 2 ^ (15 - (k + 1)) ≤ 16384 := Nat.le_trans (Nat.pow_le_pow_right (by omega) (show 15 - (k + 1) ≤ 14 by omega)) (by decide)
    have h3 : l.count (k + 1) * 2 ^ (15 - (k + 1)) ≤ 320 * 16384 := Nat.mul_le_mul h1 h2
    unfold sumT
    omega

set_option maxRecDepth 100000 in
set_option maxHeartbeats 2000000 in
theorem check_any (a : Option Addr) (N cap : Nat) (l : List Nat) (w : World) (hl : l.length ≤ 320) (h15 : ∀ x ∈ l, x ≤ 15) (h : RI w a N cap (natI l)) :
    Calls Try.prog 89 #[.slice a N cap] w (ChkPost l w) := by
  have hsl := sumT_le l h15 hl
  have hsk := sumT_kraft l h15
  have Hsk := Lib.hid hsk
  have hcl := cnt_length l
  have Hcl := Lib.hid hcl
  clear hsk hcl
  go_enter Try.func89, Try.ntmps89
  have hi16 : (Try.prog.info? 116).map (·.size) = some (aI (natI (cnt l))).size := by rw [aI_size, natI_length, cnt_length]; kernel_rfl
  have hs16 : 16 = (aI (natI (cnt l))).size := by rw [aI_size, natI_length, cnt_length]
  have Hi16 := Lib.hid hi16
  have Hs16 := Lib.hid hs16
  clear hi16 hs16
  go_wp2_with (first | (go_at_call 90; go_must (refine (counts_any a N cap l _ hl h15 h).mono ?_); rintro e w1 ⟨rfl, hb1⟩) | (refine wpList_store_row rfl 116 _ _ rfl w1.heap.size _ rfl rfl 116 _ (heap_alloc_new _ _) Hi16.out Hs16.out (aI_one _) ?_))
  have hz16 : ∀ (z : Array Value), (w1.alloc (.cells z 116)).heap[w1.heap.size]? = some (.cells z 116 (0, 0)) := fun z => heap_alloc_new w1 _
  have hA : ∀ (z : Array Value), ((w1.alloc (.cells z 116)).setRow w1.heap.size (aI (natI (cnt l)))).heap[w1.heap.size]? = some (.cells (aI (natI (cnt l))) 116 (0, 0)) := fun z => setRow_heap _ _ _ _ _ _ (hz16 z)
  have hB : ∀ (z : Array Value), Below w.heap.size w ((w1.alloc (.cells z 116)).setRow w1.heap.size (aI (natI (cnt l)))) := fun z => below_setRow1 (hb1.alloc hb1.size _) hb1.size _
  obtain ⟨W, hWeq, hA, hB⟩ : ∃ W, W = (w1.alloc (.cells #[.int .i64 0, .int .i64 0, .int .i64 0, .int .i64 0, .int .i64 0, .int .i64 0, .int .i64 0, .int .i64 0, .int .i64 0, .int .i64 0, .int .i64 0, .int .i64 0, .int .i64 0, .int .i64 0, .int .i64 0, .int .i64 0] 116)).setRow w1.heap.size (aI (natI (cnt l))) ∧
      W.heap[w1.heap.size]? = some (.cells (aI (natI (cnt l))) 116 (0, 0)) ∧ Below w.heap.size w W := ⟨_, rfl, hA _, hB _⟩
  rw [← hWeq]
  clear hWeq hz16
  go_loop [5, 6] (fun u v => ∃ k : Nat, u = .int .i64 (sumT l k : Nat) ∧ v = .int .i64 ((k + 1 : Nat) : Int) ∧ k ≤ 15) (fun _ v => 17 - (intOf v).toNat)
  case atStart => exact ⟨0, rfl, rfl, by omega⟩
  case round =>
    obtain ⟨k, rfl, rfl, hk⟩ := hrel
    by_cases hlt : k < 15
    · have c0 := arr_cellN hA (j := k + 1) (by rw [cnt_length]; omega)
      rw [atN_cnt l (by omega)] at c0
      have d : decide ((k : Int) + 1 ≤ 15) = true := by simp; omega
      go_wp2
      go_round
      case rel =>
        refine ⟨k + 1, ?_, by go_num, by omega⟩
        have h1 : l.count (k + 1) ≤ 320 := Nat.le_trans List.count_le_length hl
        have h2 : 2 ^ (14 - k) ≤ 16384 := Nat.le_trans (Nat.pow_le_pow_right (by omega) (show 14 - k ≤ 14 by omega)) (by decide)
        have h3 : l.count (k + 1) * 2 ^ (14 - k) ≤ 320 * 16384 := Nat.mul_le_mul h1 h2
        have h4 := hsl k
        have e1 : ((l.count (k + 1) : Nat) : Int) * 2 ^ (14 - k) = ((l.count (k + 1) * 2 ^ (14 - k) : Nat) : Int) := by simp
        have e2 : sumT l (k + 1) = sumT l k + l.count (k + 1) * 2 ^ (14 - k) := by
          show sumT l k + l.count (k + 1) * 2 ^ (15 - (k + 1)) = _
          rw [show 15 - (k + 1) = 14 - k by omega]
        rw [e1, e2]
        generalize l.count (k + 1) * 2 ^ (14 - k) = P at *
        rw [wrap64_id (x := (P : Int)) (by omega) (by omega), wrap64_id (by omega) (by omega)]
        exact congrArg _ (by omega)
      case measure => simp [intOf]; omega
    · have hk15 : k = 15 := by omega
      subst hk15
      go_wp2
      · have h : 32768 < sumT l 15 := by have := ‹(32768 : Int) < sumT l 15›; omega
        go_ret2
        have e : checkP l = (false, 7) := by unfold checkP; rw [← Hsk.out, if_pos h]
        exact ⟨by rw [e]; rfl, hB⟩
      · have h : ¬ 32768 < sumT l 15 := by have := ‹((sumT l 15 : Nat) : Int) ≤ 32768›; omega
        go_ret2
        have e : checkP l = (decide (sumT l 15 = 32768), 0) := by unfold checkP; rw [← Hsk.out, if_neg h]
        refine ⟨?_, hB⟩
        rw [e]
        have e3 : (((sumT l 15 : Nat) : Int) == 32768) = decide (sumT l 15 = 32768) := by rw [Bool.eq_iff_iff]; simp; omega
        show Ending.returned (.tuple #[.bool (((sumT l 15 : Nat) : Int) == 32768), .int .i64 0]) = _
        rw [e3]
        rfl
end Go.Proofs.Ytpfalaghggjbjaa
