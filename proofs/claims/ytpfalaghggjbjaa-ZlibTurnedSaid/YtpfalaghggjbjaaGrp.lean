/-
  A map from three bytes to lists of numbers, as deflate.Pieces keeps it: what it reads as; its laws.
  Conditions: none.
-/
import Derived.Test.YtpfalaghggjbjaaBase
import Derived.Test.YtpfalaghggjbjaaPlB
import Derived.DeepKeys4
import Derived.WideKeyEntry
namespace Go.Proofs.Ytpfalaghggjbjaa
open Go.RowKit

def key3 (k : K3) : Value := .agg #[.int .u8 (k.1.toNat : Int), .int .u8 (k.2.1.toNat : Int), .int .u8 (k.2.2.toNat : Int)]

theorem keys75 : WideMaps.KeyLaw Try.prog 75 :=
  deep_law_laid (by kernel_rfl) (m := 200) (by omega) (of_decide_eq_true (by kernel_rfl)) (by kernel_rfl) (by kernel_rfl)
theorem key3_some (k : K3) : ∃ l, keyOf Try.prog 75 (key3 k) = some l := by
  unfold keyOf
  rw [show Try.prog.underlying 75 = some (.array 3 5) by kernel_rfl]
  simp only
  have h1 : ∀ k, Value.formed Try.prog 75 (key3 k) = true := by
    intro k
    simp only [key3, Value.formed, show Try.prog.underlying 75 = some (.array 3 5) by kernel_rfl, show Try.prog.cellsOf 75 = 3 by kernel_rfl]
    rfl
  rw [if_pos (by rw [h1 k]; kernel_rfl)]
  have h2 : ∃ ls, Try.prog.keyLits (Try.prog.types.size + 1) 75 (key3 k).cells.toList = some ls := by
    obtain ⟨k0, k1, k2⟩ := k
    have b0 := k0.toNat_lt
    have b1 := k1.toNat_lt
    have b2 := k2.toNat_lt
    rw [show Try.prog.types.size + 1 = 169 + 1 + 1 by kernel_rfl]
    have hin : ∀ (d : Nat) (c : UInt8), Try.prog.keyLits (d + 1) 5 [.int .u8 (c.toNat : Int)] = some [.int .u8 (c.toNat : Int)] := by
      intro d c
      have := c.toNat_lt
      simp only [Program.keyLits, show Try.prog.underlying 5 = some (.int .u8) by kernel_rfl]
      have m0 : IntKind.u8.min = 0 := by decide
      have m1 : IntKind.u8.max = 255 := by decide
      have hw : (Lit.int .u8 (c.toNat : Int)).wf = true := by simp [Lit.wf, m0, m1]; omega
      rw [if_pos ⟨trivial, hw⟩]
    simp only [key3, Value.cells]
    unfold Program.keyLits
    simp only [show Try.prog.underlying 75 = some (.array 3 5) by kernel_rfl, show Try.prog.cellsOf 75 = 3 by kernel_rfl, show Try.prog.cellsOf 5 = 1 by kernel_rfl]
    rw [if_pos (by rfl)]
    simp [List.range_succ, hin]
  obtain ⟨ls, h2⟩ := h2
  exact ⟨_, by rw [h2]; rfl⟩


theorem key3_inj {k k' : K3} (h : key3 k = key3 k') : k = k' := by
  obtain ⟨a, b, c⟩ := k
  obtain ⟨a', b', c'⟩ := k'
  simp only [key3, Value.agg.injEq, List.toArray_eq_toArray_eq, List.cons.injEq, Value.int.injEq, true_and, and_true] at h
  obtain ⟨h1, h2, h3⟩ := h
  rw [UInt8.toNat_inj.1 (by omega : a.toNat = a'.toNat), UInt8.toNat_inj.1 (by omega : b.toNat = b'.toNat), UInt8.toNat_inj.1 (by omega : c.toNat = c'.toNat)]

structure GrpE (w : World) (B : Nat) (f : K3 → List Int) (es : Array MapEntry) (clock : Nat) : Prop where
  stamped : MapKept.Stamped es clock
  vals : ∀ e ∈ es.toList, ∃ k a n c, e.key = key3 k ∧ e.val = .slice a n c ∧ OI w B a n c (f k)
  none : ∀ k, (∀ e ∈ es.toList, e.key ≠ key3 k) → f k = []
  apart : ∀ e ∈ es.toList, ∀ e' ∈ es.toList, ∀ g, e.val.ownBlock = some g → e'.val.ownBlock = some g → e.key = e'.key

/-- Block M is a map from three bytes to lists of numbers: f. -/
def Grp (w : World) (B M : Nat) (f : K3 → List Int) : Prop := ∃ es clock, w.heap[M]? = some (.map es clock) ∧ GrpE w B f es clock

theorem Grp.lt {w : World} {B M : Nat} {f : K3 → List Int} (h : Grp w B M f) : M < w.heap.size := by
  obtain ⟨es, clock, hM, _⟩ := h
  exact (Array.getElem?_eq_some_iff.1 hM).1
theorem grp_made (w : World) (B : Nat) : Grp (w.alloc (.map #[] 0)) B w.heap.size (fun _ => []) :=
  ⟨#[], 0, by show (w.heap.push _)[w.heap.size]? = _; simp, ⟨⟨by simp, by simp, by simp⟩, by simp, fun _ _ => rfl, by simp⟩⟩
theorem grpE_mod {S : Nat → Prop} {w w' : World} {B : Nat} {f : K3 → List Int} {es : Array MapEntry} {clock : Nat} (h : GrpE w B f es clock) (hm : Mod S w w')
    (hS : ∀ g c m, w.heap[g]? = some (.cells c 3 m) → B ≤ g → ¬ S g) : GrpE w' B f es clock := by
  refine ⟨h.stamped, fun e he => ?_, h.none, h.apart⟩
  obtain ⟨k, a, n, c, h1, h2, h3⟩ := h.vals e he
  refine ⟨k, a, n, c, h1, h2, own_mod h3 hm fun g hg => ?_⟩
  rcases h3.2 with ⟨hv, _⟩ | ⟨g', cap', cur, hv, hb, hgg, _⟩
  · simp only [Value.slice.injEq] at hv
    rw [hv.1] at hg; cases hg
  · simp only [Value.slice.injEq] at hv
    rw [hv.1] at hg; cases hg
    exact hS g' _ _ hgg hb
/-- It stays, where no row of numbers from B on is written, nor the map itself. -/
theorem Grp.mod {S : Nat → Prop} {w w' : World} {B M : Nat} {f : K3 → List Int} (h : Grp w B M f) (hm : Mod S w w')
    (hS : ∀ g c m, w.heap[g]? = some (.cells c 3 m) → B ≤ g → ¬ S g) (hM : ¬ S M) : Grp w' B M f := by
  obtain ⟨es, clock, h1, h2⟩ := h
  exact ⟨es, clock, by rw [hm.block M (Array.getElem?_eq_some_iff.1 h1).1 hM]; exact h1, grpE_mod h2 hm hS⟩
theorem Grp.alloc {w : World} {B M : Nat} {f : K3 → List Int} (h : Grp w B M f) (o : Obj) : Grp (w.alloc o) B M f :=
  h.mod (S := fun _ => False) ((Mod.refl _ w).alloc o) (fun _ _ _ _ _ => id) id
theorem Grp.drewN {w : World} {B M : Nat} {f : K3 → List Int} (h : Grp w B M f) (k : Nat) : Grp (w.drewN k) B M f := h.mod (Mod.drewN (fun _ => False) w k) (fun _ _ _ _ _ => id) id
theorem Grp.drew {w : World} {B M : Nat} {f : K3 → List Int} (h : Grp w B M f) : Grp w.drew B M f := h.mod (S := fun _ => False) (Mod.refl _ w).drew (fun _ _ _ _ _ => id) id

theorem keysOf {w : World} {B : Nat} {f : K3 → List Int} {es : Array MapEntry} {clock : Nat} (h : GrpE w B f es clock) : ∀ e ∈ es.toList, ∃ l, keyOf Try.prog 75 e.key = some l := by
  intro e he
  obtain ⟨k, _, _, _, h1, _⟩ := h.vals e he
  rw [h1]
  exact key3_some k

theorem zero53 : ∀ u : World, (zeroValue 53).run Try.prog u = .ok (.slice none 0 0) u := fun _ => by kernel_rfl

/-- places[k]. -/
theorem grp_lookup {w : World} {B M : Nat} {f : K3 → List Int} (h : Grp w B M f) (k : K3) :
    ∃ a n c, (∀ m, (Instr.lookup 74 (.map (some M)) (key3 k) false).run Try.prog (w.drewN m) = .ok (.slice a n c) (w.drewN m)) ∧ OI w B a n c (f k) := by
  obtain ⟨es, clock, hM, hE⟩ := h
  obtain ⟨kl, hk⟩ := key3_some k
  rcases keys75.find w hk es.toList (keysOf hE) with ⟨_, h2⟩ | ⟨j, e0, _, h2, h3⟩
  · refine ⟨none, 0, 0, fun m => ?_, by rw [hE.none k h2]; exact World.ownsRow_nil _ _ _ _⟩
    rcases keys75.find (w.drewN m) hk es.toList (keysOf hE) with ⟨h1, _⟩ | ⟨j, e0, _, h2', h3⟩
    · simp [Instr.lookup, run_underlying Try.underlying74, MapKept.run_getObj_map (w := w.drewN m) hM, keys75.check (w.drewN m) _ hk, h1, Result.andThen, zero53 (w.drewN m)]
    · exact absurd h3 (h2 e0 (List.mem_of_getElem? h2'))
  · obtain ⟨k', a, n, c, h4, h5, h6⟩ := hE.vals e0 (List.mem_of_getElem? h2)
    obtain rfl := key3_inj (h4.symm.trans h3)
    refine ⟨a, n, c, fun m => ?_, h6⟩
    rcases keys75.find (w.drewN m) hk es.toList (keysOf hE) with ⟨_, h1⟩ | ⟨j', e', h1, h2', h3'⟩
    · exact absurd h3 (h1 e0 (List.mem_of_getElem? h2))
    · have he : e'.val = e0.val := by
        have hn := hE.stamped.2.2
        have : e' = e0 := by
          have hj : j' = j := by
            have g1 : (es.toList.map (·.key))[j']? = some e'.key := by simp at h2' ⊢; exact ⟨_, h2', rfl⟩
            have g2 : (es.toList.map (·.key))[j]? = some e0.key := by simp at h2 ⊢; exact ⟨_, h2, rfl⟩
            have l1 := (List.getElem?_eq_some_iff.1 g1).1
            exact (List.getElem?_inj l1 hn).1 (by rw [g1, g2, h3', h3])
          subst hj
          rw [h2] at h2'
          exact (Option.some.inj h2').symm
        rw [this]
      simp [Instr.lookup, run_underlying Try.underlying74, MapKept.run_getObj_map (w := w.drewN m) hM, keys75.check (w.drewN m) _ hk, h1, he, h5, Result.andThen]

theorem mod_setBlock {w : World} {M : Nat} {es : Array MapEntry} {clock : Nat} (hM : w.heap[M]? = some (.map es clock)) (o : Obj) : Mod (fun g => g = M) w (ChangeMaps.setBlock w M o) :=
  ⟨rfl, rfl, rfl, by simp [ChangeMaps.setBlock], fun k _ hn => ChangeMaps.heap_setBlock_other hM o hn⟩
theorem size_setBlock (w : World) (M : Nat) (o : Obj) : (ChangeMaps.setBlock w M o).heap.size = w.heap.size := by simp [ChangeMaps.setBlock]

theorem own_not_map {w : World} {B e sz n c M : Nat} {a : Option Addr} {xs : List Value} {es : Array MapEntry} {clock : Nat} (h : w.ownsRow B e sz (.slice a n c) n xs) (hM : w.heap[M]? = some (.map es clock)) : blk a ≠ some M := by
  intro hb
  rcases h.2 with ⟨hv, _⟩ | ⟨g, cap', cur, hv, _, hg, _⟩
  · simp only [Value.slice.injEq] at hv; rw [hv.1] at hb; cases hb
  · simp only [Value.slice.injEq] at hv; rw [hv.1] at hb; cases hb; rw [hM] at hg; cases hg

/-- places[k] = append(places[k], ..): the entry, then the store. -/
theorem grp_entry {w : World} {B M : Nat} {f : K3 → List Int} (h : Grp w B M f) (k : K3) :
    ∃ a n c st w1, (Instr.mapEntry 74 (.map (some M)) (key3 k)).run Try.prog w = .ok (.tuple #[.slice a n c, .int .i64 st]) w1 ∧ OI w1 B a n c (f k) ∧ Mod (fun g => g = M) w w1 ∧ w1.heap.size = w.heap.size ∧
      ∀ w2 a' n' c' l', Mod (fun g => blk a = some g) w1 w2 → OI w2 B a' n' c' l' → (blk a' = blk a ∨ ∃ g, blk a' = some g ∧ w1.heap.size ≤ g) →
        ∃ w3, (Instr.entryStore 74 (.map (some M)) (.int .i64 st) (.slice a' n' c')).run Try.prog w2 = .ok () w3 ∧ Grp w3 B M (fun x => if x = k then l' else f x) ∧ Mod (fun g => g = M) w2 w3 ∧ w3.heap.size = w2.heap.size := by
  obtain ⟨es, clock, hM, hE⟩ := h
  obtain ⟨kl, hk⟩ := key3_some k
  obtain ⟨s1, s2, s3⟩ := hE.stamped
  have hlt : M < w.heap.size := (Array.getElem?_eq_some_iff.1 hM).1
  rcases keys75.find w hk es.toList (keysOf hE) with ⟨h1, h2⟩ | ⟨j, e0, h1, h2, h3⟩
  · refine ⟨none, 0, 0, (clock : Int), ChangeMaps.setBlock w M (.map (es.push ⟨key3 k, .slice none 0 0, clock⟩) (clock + 1)), ?_, by rw [hE.none k h2]; exact World.ownsRow_nil _ _ _ _, mod_setBlock hM _, size_setBlock _ _ _, ?_⟩
    · have := zero53 w
      simp [Instr.mapEntry, run_underlying Try.underlying74, MapKept.run_getObj_map hM, keys75.check w false hk, h1, this, MapKept.run_setObj_map _ hM, Result.andThen, ChangeMaps.setBlock, goInt]
    · intro w2 a' n' c' l' hm hown hat
      have hM1 := ChangeMaps.heap_setBlock_same hM (.map (es.push ⟨key3 k, .slice none 0 0, clock⟩) (clock + 1))
      have hM2 : w2.heap[M]? = some (.map (es.push ⟨key3 k, .slice none 0 0, clock⟩) (clock + 1)) := by rw [hm.block M (by rw [size_setBlock]; exact hlt) (by simp [blk])]; exact hM1
      refine ⟨ChangeMaps.setBlock w2 M (.map (es.push ⟨key3 k, .slice a' n' c', clock⟩) (clock + 1)), ?_, ?_, mod_setBlock hM2 _, size_setBlock _ _ _⟩
      · have hidx : (es.push ⟨key3 k, .slice none 0 0, clock⟩).findIdx? (fun e => ((e.born : Nat) : Int) == ((clock : Nat) : Int)) = some es.size := by
          rw [WideElems.findIdx_arr]
          have := WideElems.findIdx_born (l := (es.push ⟨key3 k, .slice none 0 0, clock⟩).toList) (j := es.size) (e0 := ⟨key3 k, .slice none 0 0, clock⟩) (by
            simp only [Array.toList_push, List.map_append, List.map_cons, List.map_nil]
            refine List.nodup_append.2 ⟨s2, by simp, fun a ha c hc e1 => ?_⟩
            simp only [List.mem_singleton] at hc
            obtain ⟨x, hx, rfl⟩ := List.mem_map.1 ha
            have := s1 x hx
            omega) (by simp)
          exact this
        have hmod : (es.push ⟨key3 k, .slice none 0 0, clock⟩).modify es.size (fun e => { e with val := .slice a' n' c' }) = es.push ⟨key3 k, .slice a' n' c', clock⟩ := by
          apply Array.ext'
          rw [Array.toList_modify, Array.toList_push, Array.toList_push, ← Array.length_toList, WideElems.modify_last]
        simp [Instr.entryStore, MapKept.run_getObj_map hM2, asInt, asIntOf, hidx, hmod, MapKept.run_setObj_map _ hM2, Result.andThen, ChangeMaps.setBlock]
      · refine ⟨_, _, ChangeMaps.heap_setBlock_same hM2 _, ⟨⟨?_, ?_, ?_⟩, ?_, ?_, ?_⟩⟩
        · intro x hx
          simp only [Array.toList_push, List.mem_append, List.mem_singleton] at hx
          rcases hx with hx | rfl
          · have := s1 x hx; omega
          · simp
        · simp only [Array.toList_push, List.map_append, List.map_cons, List.map_nil]
          refine List.nodup_append.2 ⟨s2, by simp, fun a ha c hc e1 => ?_⟩
          simp only [List.mem_singleton] at hc
          obtain ⟨x, hx, rfl⟩ := List.mem_map.1 ha
          have := s1 x hx
          omega
        · simp only [Array.toList_push, List.map_append, List.map_cons, List.map_nil]
          refine List.nodup_append.2 ⟨s3, by simp, fun a ha c hc e1 => ?_⟩
          simp only [List.mem_singleton] at hc
          obtain ⟨x, hx, rfl⟩ := List.mem_map.1 ha
          exact h2 x hx (e1.trans hc)
        · intro e he
          simp only [Array.toList_push, List.mem_append, List.mem_singleton] at he
          rcases he with he | rfl
          · obtain ⟨k', a1, n1, c1, g1, g2, g3⟩ := hE.vals e he
            refine ⟨k', a1, n1, c1, g1, g2, ?_⟩
            have hne : k' ≠ k := fun e1 => h2 e he (by rw [g1, e1])
            rw [if_neg hne]
            have n1 : ∀ g, blk a1 = some g → ¬ g = M := fun g hg e1 => own_not_map g3 hM (by rw [hg, e1])
            exact own_mod (own_mod (own_mod g3 (mod_setBlock hM _) n1) hm (fun g _ => by simp [blk])) (mod_setBlock hM2 _) n1
          · refine ⟨k, a', n', c', rfl, rfl, ?_⟩
            rw [if_pos rfl]
            exact own_mod hown (mod_setBlock hM2 _) fun g hg e1 => own_not_map hown hM2 (by rw [hg, e1])
        · intro k' hk'
          have hne : k' ≠ k := fun e1 => hk' ⟨key3 k, .slice a' n' c', clock⟩ (by simp) (by rw [e1])
          rw [if_neg hne]
          exact hE.none k' fun e he => hk' e (by simp only [Array.toList_push, List.mem_append]; exact .inl he)
        · have old : ∀ e ∈ es.toList, ∀ g, e.val.ownBlock = some g → g < w.heap.size := by
            intro e he g hg
            obtain ⟨k', a1, n1, c1, g1, g2, g3⟩ := hE.vals e he
            rw [g2, ownBlock_slice] at hg
            exact (own_blk g3 g hg).2
          have new : ∀ g, blk a' = some g → w.heap.size ≤ g := by
            intro g hg
            rcases hat with h | ⟨g', h, h'⟩
            · rw [h] at hg; cases hg
            · rw [h] at hg; cases hg; rw [size_setBlock] at h'; exact h'
          intro e he e' he' g hg hg'
          simp only [Array.toList_push, List.mem_append, List.mem_singleton] at he he'
          rcases he with he | rfl <;> rcases he' with he' | rfl
          · exact hE.apart e he e' he' g hg hg'
          · rw [ownBlock_slice] at hg'; have := old e he g hg; have := new g hg'; omega
          · rw [ownBlock_slice] at hg; have := old e' he' g hg'; have := new g hg; omega
          · rfl
  · have hj : es[j]? = some e0 := by simpa using h2
    have hjl : j < es.toList.length := (List.getElem?_eq_some_iff.1 h2).1
    obtain ⟨k', a, n, c, h4, h5, h6⟩ := hE.vals e0 (List.mem_of_getElem? h2)
    obtain rfl := key3_inj (h4.symm.trans h3)
    have hsame : es.modify j (fun e => { e with key := key3 k' }) = es := by
      apply Array.ext'
      rw [Array.toList_modify, ChangeMaps.modify_eq_set _ _ _ _ h2]
      have : ({ e0 with key := key3 k' } : MapEntry) = e0 := by rw [← h3]
      rw [this]
      exact WideElems.set_self _ _ _ h2
    refine ⟨a, n, c, (e0.born : Int), ChangeMaps.setBlock w M (.map es clock), ?_, ?_, mod_setBlock hM _, size_setBlock _ _ _, ?_⟩
    · simp [Instr.mapEntry, run_underlying Try.underlying74, MapKept.run_getObj_map hM, keys75.check w false hk, h1, hj, h3, keys75.stays w hk, hsame, MapKept.run_setObj_map _ hM, Result.andThen, ChangeMaps.setBlock, goInt, h5]
    · exact own_mod h6 (mod_setBlock hM _) fun g hg e1 => own_not_map h6 hM (by rw [hg, e1])
    · intro w2 a' n' c' l' hm hown hat
      have hM1 := ChangeMaps.heap_setBlock_same hM (.map es clock)
      have hM2 : w2.heap[M]? = some (.map es clock) := by rw [hm.block M (by rw [size_setBlock]; exact hlt) (own_not_map h6 hM)]; exact hM1
      have hset : (es.modify j (fun e => { e with val := .slice a' n' c' })).toList = es.toList.set j { e0 with val := .slice a' n' c' } := by
        rw [Array.toList_modify, ChangeMaps.modify_eq_set _ _ _ _ h2]
      have hmem : ∀ e, e ∈ es.toList.set j { e0 with val := .slice a' n' c' } → e = { e0 with val := .slice a' n' c' } ∨ (e ∈ es.toList ∧ e.key ≠ key3 k') := by
        intro e he
        obtain ⟨i, hi, rfl⟩ := List.getElem_of_mem he
        rw [List.length_set] at hi
        by_cases hij : i = j
        · subst hij; exact .inl (by simp)
        · right
          rw [List.getElem_set_ne (by omega)]
          refine ⟨List.getElem_mem _, fun e1 => hij ?_⟩
          have g1 : (es.toList.map (·.key))[i]? = some (es.toList[i]).key := by rw [List.getElem?_map, List.getElem?_eq_getElem hi]; rfl
          have g2 : (es.toList.map (·.key))[j]? = some e0.key := by simp at h2 ⊢; exact ⟨_, h2, rfl⟩
          exact (List.getElem?_inj (by simpa using hi) s3).1 (by rw [g1, g2, h3, e1])
      refine ⟨ChangeMaps.setBlock w2 M (.map (es.modify j (fun e => { e with val := .slice a' n' c' })) clock), ?_, ?_, mod_setBlock hM2 _, size_setBlock _ _ _⟩
      · have hidx : es.findIdx? (fun e => ((e.born : Nat) : Int) == ((e0.born : Nat) : Int)) = some j := by
          rw [WideElems.findIdx_arr]
          exact WideElems.findIdx_born s2 h2
        simp [Instr.entryStore, MapKept.run_getObj_map hM2, asInt, asIntOf, hidx, MapKept.run_setObj_map _ hM2, Result.andThen, ChangeMaps.setBlock]
      · have hborn : (es.toList.set j { e0 with val := .slice a' n' c' }).map (·.born) = es.toList.map (·.born) := by
          rw [List.map_set]; exact WideElems.set_self _ _ _ (by simp at h2 ⊢; exact ⟨_, h2, rfl⟩)
        have hkeys : (es.toList.set j { e0 with val := .slice a' n' c' }).map (·.key) = es.toList.map (·.key) := by
          rw [List.map_set]; exact WideElems.set_self _ _ _ (by simp at h2 ⊢; exact ⟨_, h2, rfl⟩)
        refine ⟨_, _, ChangeMaps.heap_setBlock_same hM2 _, ⟨⟨?_, ?_, ?_⟩, ?_, ?_, ?_⟩⟩
        · rw [hset]
          intro x hx
          have : x.born ∈ es.toList.map (·.born) := by rw [← hborn]; exact List.mem_map.2 ⟨x, hx, rfl⟩
          obtain ⟨y, hy, e1⟩ := List.mem_map.1 this
          rw [← e1]; exact s1 y hy
        · rw [hset, hborn]; exact s2
        · rw [hset, hkeys]; exact s3
        · rw [hset]
          intro e he
          rcases hmem e he with rfl | ⟨he', hne⟩
          · refine ⟨k', a', n', c', h3, rfl, ?_⟩
            rw [if_pos rfl]
            exact own_mod hown (mod_setBlock hM2 _) fun g hg e1 => own_not_map hown hM2 (by rw [hg, e1])
          · obtain ⟨k'', a1, n1, c1, g1, g2, g3⟩ := hE.vals e he'
            refine ⟨k'', a1, n1, c1, g1, g2, ?_⟩
            have hne' : k'' ≠ k' := fun e1 => hne (by rw [g1, e1])
            rw [if_neg hne']
            have n1 : ∀ g, blk a1 = some g → ¬ g = M := fun g hg e1 => own_not_map g3 hM (by rw [hg, e1])
            refine own_mod (own_mod (own_mod g3 (mod_setBlock hM _) n1) hm fun g hg hg' => hne ?_) (mod_setBlock hM2 _) n1
            rw [hE.apart e he' e0 (List.mem_of_getElem? h2) g (by rw [g2, ownBlock_slice]; exact hg) (by rw [h5, ownBlock_slice]; exact hg'), h3]
        · rw [hset]
          intro k'' hk''
          have hne : k'' ≠ k' := fun e1 => by
            refine hk'' { e0 with val := .slice a' n' c' } ?_ (by show e0.key = _; rw [h3, e1])
            exact List.mem_of_getElem? (i := j) (List.getElem?_set_self hjl)
          rw [if_neg hne]
          refine hE.none k'' fun e he e1 => ?_
          have : e.key ∈ (es.toList.set j { e0 with val := .slice a' n' c' }).map (·.key) := by rw [hkeys]; exact List.mem_map.2 ⟨e, he, rfl⟩
          obtain ⟨y, hy, e2⟩ := List.mem_map.1 this
          exact hk'' y hy (e2.trans e1)
        · rw [hset]
          have old : ∀ e ∈ es.toList, ∀ g, e.val.ownBlock = some g → g < w.heap.size := by
            intro e he g hg
            obtain ⟨k', a1, n1, c1, g1, g2, g3⟩ := hE.vals e he
            rw [g2, ownBlock_slice] at hg
            exact (own_blk g3 g hg).2
          have new : ∀ e ∈ es.toList, e.key ≠ key3 k' → ∀ g, e.val.ownBlock = some g → blk a' ≠ some g := by
            intro e he hne g hg hg'
            rcases hat with h | ⟨g', h, h'⟩
            · refine hne ?_
              rw [hE.apart e he e0 (List.mem_of_getElem? h2) g hg (by rw [h5, ownBlock_slice, ← h]; exact hg'), h3]
            · rw [h] at hg'; cases hg'
              rw [size_setBlock] at h'
              have := old e he _ hg; omega
          intro e he e' he' g hg hg'
          rcases hmem e he with rfl | ⟨he1, hne⟩ <;> rcases hmem e' he' with rfl | ⟨he1', hne'⟩
          · rfl
          · exact absurd (by rw [← ownBlock_slice a' n' c']; exact hg) (new e' he1' hne' g hg')
          · exact absurd (by rw [← ownBlock_slice a' n' c']; exact hg') (new e he1 hne g hg)
          · exact hE.apart e he1 e' he1' g hg hg'
end Go.Proofs.Ytpfalaghggjbjaa
