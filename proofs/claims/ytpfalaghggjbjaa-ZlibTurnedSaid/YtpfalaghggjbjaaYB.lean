/-
  The walks of huffman.reader, its closure, huffman.Read.
  Conditions: a code that may be, of at most 320 lengths; bytes that nobody writes meanwhile, no more than 2^30.
-/
import Derived.Test.YtpfalaghggjbjaaYA
import Derived.Test.YtpfalaghggjbjaaWK
namespace Go.Proofs.Ytpfalaghggjbjaa
open Go.RowKit

/-- The symbols below i whose codes are k bits long; the longest code of the first i. -/
def posT (L : List Nat) (i k : Nat) : List Nat := (List.range i).filter fun s => atN L s == k
def maxT (L : List Nat) (i : Nat) : Nat := (L.take i).foldl max 0
theorem posT_all (L : List Nat) : posT L L.length = posOf L := rfl
theorem maxT_all (L : List Nat) : maxT L L.length = maxOf L := by unfold maxT maxOf; rw [List.take_length]
theorem posT_step (L : List Nat) (i k : Nat) : posT L (i + 1) k = if k = atN L i then posT L i k ++ [i] else posT L i k := by
  unfold posT
  rw [List.range_succ, List.filter_append]
  by_cases h : atN L i = k
  · subst h; simp
  · rw [if_neg (fun e => h e.symm)]; simp [h]
theorem maxT_step {L : List Nat} {i : Nat} (h : i < L.length) : maxT L (i + 1) = max (maxT L i) (atN L i) := by
  unfold maxT
  rw [take_atN h, List.foldl_append]
  rfl
theorem posT_length (L : List Nat) (i k : Nat) : (posT L i k).length ≤ i := by
  unfold posT
  have := List.length_filter_le (fun s => atN L s == k) (List.range i)
  simpa using this
theorem maxT_le {L : List Nat} (h : ∀ x ∈ L, x ≤ 15) : ∀ i, maxT L i ≤ 15
  | 0 => by simp [maxT]
  | i + 1 => by
    have ih := maxT_le h i
    by_cases hi : i < L.length
    · rw [maxT_step hi]
      have : atN L i ≤ 15 := atN_le_of h i
      omega
    · unfold maxT at ih ⊢
      rw [List.take_of_length_le (by omega)] at ih ⊢
      exact ih

/-- Sixteen rows of numbers of the call's own, each in a block of its own, told by block ps. -/
def rowsA (A : Nat → Option Addr) (c : Nat → Nat) (f : Nat → List Nat) : Array Value := ((List.range 16).map fun k => Value.slice (A k) (f k).length (c k)).toArray
def Syms (w : World) (B ps : Nat) (f : Nat → List Nat) : Prop :=
  ∃ A c, w.heap[ps]? = some (.cells (rowsA A c f) 154 (0, 0)) ∧ (∀ k, k < 16 → OI w B (A k) (f k).length (c k) (natI (f k))) ∧ ∀ j k, j < 16 → k < 16 → j ≠ k → ∀ g, blk (A j) = some g → blk (A k) ≠ some g
theorem rowsA_get (A : Nat → Option Addr) (c : Nat → Nat) (f : Nat → List Nat) {k : Nat} (hk : k < 16) : (rowsA A c f)[k]? = some (.slice (A k) (f k).length (c k)) := by
  simp [rowsA, hk]
theorem Syms.mod {S : Nat → Prop} {w w' : World} {B ps : Nat} {f : Nat → List Nat} (h : Syms w B ps f) (hm : Mod S w w') (hs : ∀ g, S g → g < B ∧ g ≠ ps) : Syms w' B ps f := by
  obtain ⟨A, c, h1, h2, h3⟩ := h
  exact ⟨A, c, heap_mod hm h1 (fun h => (hs _ h).2 rfl), fun k hk => own_mod (h2 k hk) hm (fun g hg h => by have := own_blk (h2 k hk) g hg; have := hs g h; omega), h3⟩
/-- A row's slice is read; behind an append it is stored back. -/
theorem Syms.row {w : World} {B ps : Nat} {f : Nat → List Nat} (h : Syms w B ps f) {x : Nat} (hx : x < 16) :
    ∃ a c, w.cell? ⟨ps, x, none⟩ = some (.slice a (f x).length c) ∧ w.frozen? ⟨ps, x, none⟩ = false ∧ OI w B a (f x).length c (natI (f x)) ∧
      ∀ w1 w2 a' c' (v : Nat), Mod (fun _ => False) w w1 → Grew w1 w2 a a' → OI w2 B a' ((f x).length + 1) c' (natI (f x ++ [v])) → B ≤ w.heap.size → ps < B →
        w2.heap[ps]? = w.heap[ps]? ∧ Syms (w2.setCell ⟨ps, x, none⟩ (.slice a' ((f x).length + 1) c')) B ps (fun k => if k = x then f k ++ [v] else f k) ∧ w2.frozen? ⟨ps, x, none⟩ = false ∧ (w2.cell? ⟨ps, x, none⟩).isSome = true := by
  obtain ⟨A, c, h1, h2, h3⟩ := h
  refine ⟨A x, c x, cell_at h1 (rowsA_get A c f hx), free_at h1, h2 x hx, fun w1 w2 a' c' v hm hg ho hB hps => ?_⟩
  have hpz := lt_at h1
  have e1 : w1.heap[ps]? = some (.cells (rowsA A c f) 154 (0, 0)) := heap_mod hm h1 id
  have hne : blk (A x) ≠ some ps := own_ne_cells (h2 x hx) h1 (by decide)
  have e2 : w2.heap[ps]? = some (.cells (rowsA A c f) 154 (0, 0)) := heap_grew hg e1 hne
  refine ⟨by rw [e2, h1], ⟨fun k => if k = x then a' else A k, fun k => if k = x then c' else c k, ?_, ?_, ?_⟩, free_at e2, by rw [cell_at e2 (rowsA_get A c f hx)]; rfl⟩
  · rw [heap_set e2]
    congr 2
    unfold rowsA
    rw [List.setIfInBounds_toArray]
    congr 1
    apply List.ext_getElem?
    intro k
    by_cases hk : k < 16
    · simp only [List.getElem?_set, List.getElem?_map, List.getElem?_range hk, List.length_map, List.length_range, Option.map_some]
      by_cases e : x = k
      · subst e; simp [hx]
      · simp [e, show ¬ k = x from fun h => e h.symm]
    · rw [List.getElem?_eq_none (by simp; omega), List.getElem?_eq_none (by simp; omega)]
  · intro k hk
    by_cases e : k = x
    · subst e
      simp only [if_true]
      have hl : (f k ++ [v]).length = (f k).length + 1 := by simp
      rw [hl]
      exact oi_set ho (own_ne_cells ho e2 (by decide)) _
    · simp only [if_neg e]
      have o1 : OI w1 B (A k) (f k).length (c k) (natI (f k)) := own_mod (h2 k hk) hm (fun g _ h => h)
      have o2 : OI w2 B (A k) (f k).length (c k) (natI (f k)) := own_mod o1 hg.mod (fun g hgk hx' => h3 x k hx hk (fun h => e h.symm) g hx' hgk)
      exact oi_set o2 (own_ne_cells o2 e2 (by decide)) _
  · intro j k hj hk hjk g hgj hgk
    simp only at hgj hgk
    by_cases ej : j = x
    · rw [if_pos ej] at hgj
      rw [if_neg (by omega)] at hgk
      rcases hg.at_ with q | ⟨g', q, q2⟩
      · rw [q] at hgj; exact h3 x k hx hk (by omega) g hgj hgk
      · rw [q] at hgj; cases hgj
        have := own_blk (h2 k hk) _ hgk
        have := hm.size
        omega
    · rw [if_neg ej] at hgj
      by_cases ek : k = x
      · rw [if_pos ek] at hgk
        rcases hg.at_ with q | ⟨g', q, q2⟩
        · rw [q] at hgk; exact h3 j x hj hx (by omega) g hgj hgk
        · rw [q] at hgk; cases hgk
          have := own_blk (h2 j hj) _ hgj
          have := hm.size
          omega
      · rw [if_neg ek] at hgk; exact h3 j k hj hk hjk g hgj hgk

/-- What a symbol's reader has captured. -/
structure Rdr (w : World) (B pl pt pb pf pn ps : Nat) (L : List Nat) (a0 : Option Addr) (N cap t : Nat) : Prop where
  l : w.heap[pl]? = some (.cells #[.int .i64 (maxOf L : Nat)] 3 (0, 0))
  t : w.heap[pt]? = some (.cells #[.int .i64 (t : Int)] 3 (0, 0))
  b : w.heap[pb]? = some (.cells #[.slice a0 N cap] 22 (0, 0))
  f : w.heap[pf]? = some (.cells (aI (natI (firstsN (cnt L)))) 119 (0, 0))
  n : w.heap[pn]? = some (.cells (aI (natI (cnt L))) 116 (0, 0))
  s : Syms w B ps (posOf L)
  ne : pl ≠ pt
  lt : pt < B ∧ pl < B
def RdrPost (L : List Nat) (a0 : Option Addr) (N cap t : Nat) (w : World) (e : Ending) (w' : World) : Prop :=
  ∃ B pl pt pb pf pn ps, e = .returned (.func (Fn.func 122) #[] #[.pointer (some ⟨pl, 0, none⟩), .pointer (some ⟨pt, 0, none⟩), .pointer (some ⟨pb, 0, none⟩), .pointer (some ⟨pf, 0, none⟩), .pointer (some ⟨pn, 0, none⟩), .pointer (some ⟨ps, 0, none⟩)]) ∧
    Rdr w' B pl pt pb pf pn ps L a0 N cap t ∧ w.heap.size ≤ pt ∧ Below w.heap.size w w'

theorem heap_below {w w' : World} {p : Nat} {o : Obj} (h : w.heap[p]? = some o) (hb : Below w.heap.size w w') : w'.heap[p]? = some o := by rw [hb.block p (lt_at h)]; exact h
theorem syms_made (w : World) (B : Nat) : Syms (w.alloc (.cells #[.slice none 0 0, .slice none 0 0, .slice none 0 0, .slice none 0 0, .slice none 0 0, .slice none 0 0, .slice none 0 0, .slice none 0 0, .slice none 0 0, .slice none 0 0, .slice none 0 0, .slice none 0 0, .slice none 0 0, .slice none 0 0, .slice none 0 0, .slice none 0 0] 154)) B w.heap.size (fun _ => []) :=
  ⟨fun _ => none, fun _ => 0, heap_alloc_new w _, fun k _ => World.ownsRow_nil _ _ _ _, fun j k _ _ _ g h => by cases h⟩

set_option maxRecDepth 100000 in
set_option maxHeartbeats 4000000 in
theorem reader_any (aL a0 : Option Addr) (nL cL N cap t : Nat) (L : List Nat) (w : World) (hl : L.length ≤ 320) (h15 : ∀ x ∈ L, x ≤ 15) (h : RI w aL nL cL (natI L)) :
    Calls Try.prog 120 #[.slice aL nL cL, .slice a0 N cap, .int .i64 (t : Int)] w (RdrPost L a0 N cap t w) := by
  obtain rfl : nL = L.length := by have := RI.len h; rw [natI_length] at this; exact this
  have hC := fun w h => counts_any aL L.length cL L w hl h15 h
  have hF := fun w => firsts_any (cnt L) w (cnt_length L) (fun x hx => Nat.le_trans (cnt_le L x hx) hl)
  obtain ⟨b, off, hidx, hc⟩ := Rd.open h 53 3 Try.underlying53 (by kernel_rfl)
  have hcs : ∀ j, j < L.length → w.cell? ⟨b, off + j, none⟩ = some (.int .i64 ((atN L j : Nat) : Int)) := fun j hj => by
    rw [hc j (by simpa [natI_length] using hj), cI_get, atI_natI]
  clear hc
  have hi16 : (Try.prog.info? 116).map (·.size) = some (aI (natI (cnt L))).size := by rw [aI_size, natI_length, cnt_length]; kernel_rfl
  have hs16 : 16 = (aI (natI (cnt L))).size := by rw [aI_size, natI_length, cnt_length]
  have hi17 : (Try.prog.info? 119).map (·.size) = some (aI (natI (firstsN (cnt L)))).size := by rw [aI_size, natI_length, ← firstsT_all, firstsT_length]; kernel_rfl
  have hs17 : 17 = (aI (natI (firstsN (cnt L)))).size := by rw [aI_size, natI_length, ← firstsT_all, firstsT_length]
  have Hi16 := Lib.hid hi16
  have Hs16 := Lib.hid hs16
  have Hi17 := Lib.hid hi17
  have Hs17 := Lib.hid hs17
  clear hi16 hs16 hi17 hs17
  go_enter Try.func120, Try.ntmps120
  go_wp2_with (first
    | (go_at_call 90; go_must (refine (hC _ (rd_below0 h (((Below.refl _ w).alloc (Nat.le_refl _) _).alloc (by simp) _))).mono ?_); rintro e w1 ⟨rfl, hb1⟩)
    | (go_at_call 91; go_must (refine (hF _).mono ?_); rintro e w2 ⟨rfl, hb2⟩)
    | (refine wpList_load_row rfl 116 _ rfl w1.heap.size rfl 116 _ _ _ (setRow_heap _ _ _ _ _ _ (heap_alloc_new _ _)) Try.underlying116 rfl Hi16.out ?_)
    | (refine wpList_store_row rfl 116 _ _ rfl w1.heap.size _ rfl rfl 116 _ (heap_alloc_new _ _) Hi16.out Hs16.out (aI_one _) ?_)
    | (refine wpList_store_row rfl 119 _ _ rfl w2.heap.size _ rfl rfl 119 _ (heap_alloc_new _ _) Hi17.out Hs17.out (aI_one _) ?_))
  have z1 := hb1.size
  have z2 := hb2.size
  simp only [World.size_alloc, size_setRow1] at z1 z2
  go_loopw [23] (fun u wr => ∃ i : Nat, u = .int .i64 i ∧ i ≤ L.length ∧ Syms wr (w2.heap.size + 3) (w2.heap.size + 1) (posT L i) ∧ wr.heap[w2.heap.size + 1 + 1]? = some (.cells #[.int .i64 (maxT L i : Nat)] 3 (0, 0)) ∧
      wr.heap[w.heap.size + 1]? = some (.cells #[.int .i64 (t : Int)] 3 (0, 0)) ∧ wr.heap[w.heap.size]? = some (.cells #[.slice a0 N cap] 22 (0, 0)) ∧
      wr.heap[w2.heap.size]? = some (.cells (aI (natI (firstsN (cnt L)))) 119 (0, 0)) ∧ wr.heap[w1.heap.size]? = some (.cells (aI (natI (cnt L))) 116 (0, 0)) ∧ w2.heap.size + 3 ≤ wr.heap.size ∧ Below w.heap.size w wr) (fun u _ => L.length - (intOf u).toNat)
  case atStart =>
    have s1 : ∀ (x y : Array Value), ((w2.alloc (.cells x 119)).setRow w2.heap.size y).heap.size = w2.heap.size + 1 := fun x y => by simp
    have hsy := fun (x y : Array Value) => syms_made ((w2.alloc (.cells x 119)).setRow w2.heap.size y) (w2.heap.size + 3)
    simp only [s1] at hsy
    refine ⟨0, rfl, by omega, (hsy _ _).mod ((Mod.refl (fun _ => False) _).alloc _) (fun g h => h.elim), ?_, ?_, ?_, ?_, ?_, by simp, ?_⟩
    · have := fun o => heap_alloc_new ((((w2.alloc (.cells (aI (natI (List.replicate 17 0))) 119)).setRow w2.heap.size (aI (natI (firstsN (cnt L))))).alloc o)) (.cells #[.int .i64 0] 3)
      simp only [World.size_alloc, s1] at this
      exact this _
    · refine heap_alloc (heap_alloc (heap_setRow_other (heap_alloc (heap_below (heap_setRow_other (heap_alloc (heap_below ?_ hb1) _) (by omega) _) hb2) _) (by omega) _) _) _
      have := heap_alloc_new (w.alloc (.cells #[.slice a0 N cap] 22)) (.cells #[.int .i64 (t : Int)] 3)
      rw [World.size_alloc] at this
      exact this
    · exact heap_alloc (heap_alloc (heap_setRow_other (heap_alloc (heap_below (heap_setRow_other (heap_alloc (heap_below (heap_alloc (heap_alloc_new w _) _) hb1) _) (by omega) _) hb2) _) (by omega) _) _) _
    · exact heap_alloc (heap_alloc (setRow_heap _ _ _ _ _ _ (heap_alloc_new _ _)) _) _
    · exact heap_alloc (heap_alloc (heap_setRow_other (heap_alloc (heap_below (setRow_heap _ _ _ _ _ _ (heap_alloc_new _ _)) hb2) _) (by omega) _) _) _
    · have k1 := (((Below.refl w.heap.size w).alloc (Nat.le_refl _) _).alloc (by simp) _).trans (hb1.mono (by simp; omega))
      have k2 := (below_setRow1 (k1.alloc (by omega) _) (by omega) _).trans (hb2.mono (by simp; omega))
      have k3 := below_setRow1 (k2.alloc (by omega) (.cells (aI (natI (List.replicate 17 0))) 119)) (show w.heap.size ≤ w2.heap.size by omega) (aI (natI (firstsN (cnt L))))
      exact (k3.alloc (by simp; omega) _).alloc (by simp; omega) _
  case round =>
    obtain ⟨i, rfl, hi, hS, hl1, ht1, hb1', hf1, hn1, hz, hbel⟩ := hrel
    by_cases hlt : i < L.length
    · have c0 := cell_below (hcs i hlt) hbel
      have hx15 : atN L i ≤ 15 := atN_le_of h15 i
      have hst := posT_step L i
      have Hst := Lib.hid hst
      have hmx := maxT_step hlt
      have Hmx := Lib.hid hmx
      have hm15 := maxT_le h15 i
      have hpl := posT_length L i (atN L i)
      clear hst hmx
      generalize atN L i = x at *
      obtain ⟨a, c, cx, fx, ox, hrow⟩ := hS.row (x := x) (by omega)
      have Hrow := Lib.hid hrow
      have cl := cell_at (j := 0) hl1 rfl
      have fl := free_at (j := 0) hl1
      clear hrow hcs
      go_wp2_with (at_builtin; go_must (refine wpList_appI rfl _ _ rfl (w2.heap.size + 3) a (posT L i x).length c (natI (posT L i x)) rfl (OI.alloc ox _) _ 1 1 [(i : Int)] rfl (ri_new _ _ _ _ rfl) (by omega) (by simp; omega) ?_); intro a' c' w3 ho hg
                   have hne : ∀ k, k < w2.heap.size + 3 → blk a ≠ some k := fun k hk e => by have := (own_blk ox k e).1; omega
                   have hl3 := heap_grew hg (heap_alloc hl1 _) (hne _ (by omega))
                   have hr3 := Hrow.out _ _ a' c' i ((Mod.refl _ wr).alloc _) hg (by rw [natI_append]; exact ho) hz (by omega)
                   have f3 := hr3.2.2.1
                   obtain ⟨v3, q3⟩ := Option.isSome_iff_exists.1 hr3.2.2.2
                   have cl3 := cell_at (j := 0) hl3 rfl
                   have fl3 := free_at (j := 0) hl3
                   have hr3 := Lib.hid hr3.2.1
                   have hne := Lib.hid hne
                   clear hl1 cl fl)
      have hmaxe : (if maxT L i < x then (x : Int) else (maxT L i : Int)) = ((maxT L (i + 1) : Nat) : Int) := by rw [Hmx.out]; split <;> omega
      have hfe : posT L (i + 1) = fun k => if k = x then posT L i k ++ [i] else posT L i k := funext Hst.out
      have hzz := hbel.size
      have hz3 := hg.mod.size
      rw [World.size_alloc] at hz3
      have keep : ∀ q o, q < w2.heap.size + 3 → q ≠ w2.heap.size + 1 → q ≠ w2.heap.size + 1 + 1 → wr.heap[q]? = some o → ∀ v v', ((w3.setCell ⟨w2.heap.size + 1, x, none⟩ v).setCell ⟨w2.heap.size + 1 + 1, 0, none⟩ v').heap[q]? = some o :=
        fun q o hq h1 h2 ho v v' => heap_set_other (heap_set_other (heap_grew hg (heap_alloc ho _) (hne.out q hq)) (fun e => h1 e.symm) _) (fun e => h2 e.symm) _
      rw [hmaxe]
      refine ⟨⟨i + 1, by go_num, by omega, ?_, ?_, keep _ _ (by omega) (by omega) (by omega) ht1 _ _, keep _ _ (by omega) (by omega) (by omega) hb1' _ _, keep _ _ (by omega) (by omega) (by omega) hf1 _ _, keep _ _ (by omega) (by omega) (by omega) hn1 _ _, by simp [World.setCell]; omega, ?_⟩, by simp [intOf]; omega⟩
      · rw [hfe]
        exact hr3.out.mod ((Mod.refl (fun k => k = w2.heap.size + 1 + 1) _).setCell _ _ (fun _ => rfl)) (fun g h => by omega)
      · exact heap_set (j := 0) (heap_set_other hl3 (fun (e : w2.heap.size + 1 = w2.heap.size + 1 + 1) => by omega) _) _
      · exact ((below_grew (hbel.alloc hzz _) hg (by simp; omega) (fun g hgg => by have := (own_blk ox g hgg).1; omega)).setCell (show w.heap.size ≤ w2.heap.size + 1 by omega) _).setCell (show w.heap.size ≤ w2.heap.size + 1 + 1 by omega) _
    · have hil : i = L.length := by omega
      subst hil
      rw [posT_all] at hS
      rw [maxT_all] at hl1
      go_wp2
      go_ret
      exact ⟨w2.heap.size + 3, w2.heap.size + 1 + 1, w.heap.size + 1, w.heap.size, w2.heap.size, w1.heap.size, w2.heap.size + 1, rfl, ⟨hl1, ht1, hb1', hf1, hn1, hS, by omega, by omega⟩, by omega, hbel⟩
end Go.Proofs.Ytpfalaghggjbjaa
