/-
  The walk of deflate.Pieces' closure note: it notes a place under its three bytes.
  Conditions: the slice reads as a list of bytes, shorter than 2^40.
-/
import Derived.Test.YtpfalaghggjbjaaWB
import Derived.BigRegion
import Derived.Test.YtpfalaghggjbjaaGrp
namespace Go.Proofs.Ytpfalaghggjbjaa
open Go.RowKit

/-- What note may write: the map, and rows of numbers from B on. -/
def Noted (w : World) (B M : Nat) (g : Nat) : Prop := g = M ∨ (B ≤ g ∧ ∃ c m, w.heap[g]? = some (.cells c 3 m))
theorem noted_of_own {w w1 : World} {B M n c g : Nat} {a : Option Addr} {xs : List Int} (hm : Mod (fun g => g = M) w w1) (h : OI w1 B a n c xs) (hg : blk a = some g) (hlt : g < w.heap.size) : Noted w B M g := by
  by_cases hM : g = M
  · exact .inl hM
  · refine .inr ⟨(own_blk h g hg).1, ?_⟩
    rcases h.2 with ⟨hv, _⟩ | ⟨g', cap', cur, hv, _, hh, _⟩
    · simp only [Value.slice.injEq] at hv; rw [hv.1] at hg; cases hg
    · simp only [Value.slice.injEq] at hv; rw [hv.1] at hg; cases hg
      rw [hm.block g' hlt hM] at hh
      exact ⟨_, _, hh⟩
def NotePost (l : List UInt8) (w : World) (B M i : Nat) (e : Ending) (w' : World) : Prop := e = .returned (.tuple #[]) ∧ Grp w' B M (places l (i + 1)) ∧ Mod (Noted w B M) w w'

set_option maxRecDepth 100000 in
set_option maxHeartbeats 1000000 in
theorem note_any (a : Option Addr) (N cap p1 p2 B M : Nat) (l : List UInt8) (i : Nat) (w : World) (hl : l.length ≤ 1099511627776) (h : RB w a N cap l)
   (h1 : w.cell? ⟨p1, 0, none⟩ = some (.slice a N cap)) (h2 : w.cell? ⟨p2, 0, none⟩ = some (.map (some M))) (hG : Grp w B M (places l i)) (hB : B ≤ w.heap.size) (hi : i < l.length) :
    Calls Try.prog 51 #[.int .i64 i, .pointer (some ⟨p1, 0, none⟩), .pointer (some ⟨p2, 0, none⟩)] w (NotePost l w B M i) := by
  obtain rfl := RB.len h
  by_cases hi3 : i + 3 ≤ l.length
  · obtain ⟨b, off, hidx, hc⟩ := Rd.open h 22 5 Try.underlying22 (by kernel_rfl)
    have hc' : ∀ j, j < l.length → w.cell? ⟨b, off + j, none⟩ = some (.int .u8 (at8 l j)) := fun j hj => by rw [hc j (by simpa using hj), cB_get]
    have c0 := hc' i (by omega)
    have c1 := hc' (i + 1) (by omega)
    have c2 := hc' (i + 2) (by omega)
    clear hc h hc'
    have z1 : p1 < w.heap.size := World.block_lt_of_cell? w _ h1
    have z2 : p2 < w.heap.size := World.block_lt_of_cell? w _ h2
    have z3 : b < w.heap.size := World.block_lt_of_cell? w _ c0
    have y0 : i < l.length := by omega
    have y1 : i + 1 < l.length := by omega
    have y2 : i + 2 < l.length := by omega
    obtain ⟨W2, hW2⟩ : ∃ W2, W2 = ((w.alloc (.cells #[.int .u8 (at8 l i), .int .u8 (at8 l (i + 1)), .int .u8 (at8 l (i + 2))] 75)).alloc (.cells #[.int .i64 (i : Int)] 3)).drew := ⟨_, rfl⟩
    have m2 : Mod (fun _ => False) w W2 := by rw [hW2]; exact ((((Mod.refl _ w).alloc _).alloc _).drew)
    have hz2 : W2.heap.size = w.heap.size + 2 := by rw [hW2]; simp
    have hG2 : Grp W2 B M (places l i) := hG.mod m2 (fun _ _ _ _ _ => id) id
    have hM := hG.lt
    obtain ⟨a1, n1, k1, st, w1, hrun, hown, hm1, hs1, hnext⟩ := grp_entry hG2 (tri l i)
    have hn1 : n1 ≤ i := by have := (OI.ri hown).len; have := places_length l i (tri l i); omega
    have hsrc : RI w1 (some ⟨w.heap.size + 1, 0, none⟩) 1 1 [(i : Int)] := by
      have h0 : RI W2 (some ⟨w.heap.size + 1, 0, none⟩) 1 1 [(i : Int)] := by
        rw [hW2]
        have := ri_new (w.alloc (.cells #[.int .u8 (at8 l i), .int .u8 (at8 l (i + 1)), .int .u8 (at8 l (i + 2))] 75)) _ (i : Int) 3 (World.size_alloc _ _)
        exact rd_drewN this 1
      exact rd_mod h0 hm1 fun g hg e => by simp [blk] at hg; omega
    have hrun' : (Instr.mapEntry 74 (.map (some M)) (.agg #[.int .u8 (at8 l i), .int .u8 (at8 l (i + 1)), .int .u8 (at8 l (i + 2))])).run Try.prog
        ((w.alloc (.cells #[.int .u8 (at8 l i), .int .u8 (at8 l (i + 1)), .int .u8 (at8 l (i + 2))] 75)).alloc (.cells #[.int .i64 (i : Int)] 3)).drew = .ok (.tuple #[.slice a1 n1 k1, .int .i64 st]) w1 := by
      rw [← hW2]; exact hrun
    have hb1 : B ≤ w1.heap.size := by omega
    clear hrun hG hs1 hz2 hW2
    go_enter Try.func51, Try.ntmps51
    go_wp2
    go_region
    go_wp2_with (at_builtin; (refine wpList_appI rfl _ _ rfl B a1 n1 k1 (places l i (tri l i)) rfl hown _ 1 1 [(i : Int)] rfl hsrc (by omega) (by omega) ?_); intro a' c' w2 hown' hgrew; obtain ⟨w3, hst, hG3, hm3, hs3⟩ := hnext w2 a' _ c' _ hgrew.mod hown' hgrew.at_)
    go_end0
    have m1 : Mod (fun g => g = M) w w1 := m2.trans hm1 (fun _ _ h => h.elim) (fun _ _ h => h)
    refine ⟨rfl, by rw [places_yes hi3]; exact hG3, ?_⟩
    refine ((m1.trans (U := Noted w B M) hgrew.mod (fun _ _ h => .inl h) fun g hg h => noted_of_own m1 hown h hg).trans hm3 (fun _ _ h => h) fun _ _ h => .inl h)
  · have d : decide ((i : Int) + 3 ≤ l.length) = false := by simp; omega
    have d' : ¬ ((i : Int) + 3 ≤ l.length) := by omega
    go_enter Try.func51, Try.ntmps51
    go_wp2
    go_end0
    exact ⟨rfl, by rw [places_no hi3]; exact hG, Mod.refl _ _⟩
end Go.Proofs.Ytpfalaghggjbjaa
