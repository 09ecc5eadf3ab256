/-
  The walks of zlib.Pack and sluicegateref06.Pack.
  Conditions: the slice reads as a list of bytes, no longer than 2^30.
-/
import Derived.Test.YtpfalaghggjbjaaWW
import Derived.Test.YtpfalaghggjbjaaWS
namespace Go.Proofs.Ytpfalaghggjbjaa
open Go.RowKit

/-- A number's four bytes, the highest first. -/
def be4 (s : Nat) : List UInt8 := [UInt8.ofNat (s / 16777216), UInt8.ofNat (s / 65536), UInt8.ofNat (s / 256), UInt8.ofNat s]
def packP (l : List UInt8) : List UInt8 := [120, 1] ++ deflateP l ++ be4 (adler l)
theorem ob_made {w : World} {B g n : Nat} {c : Array Value} {l : List UInt8} (hg : w.heap.size = g) (hc : c.toList = cB l) (hn : n = l.length) (hs : n ≤ 1099511627776) (hB : B ≤ w.heap.size) : OB (w.alloc (.cells c 5)) B (some ⟨g, 0, none⟩) n n l := by
  subst hg hn
  have hz : c.size = l.length := by rw [← Array.length_toList, hc]; simp
  exact ⟨by simp, .inr ⟨w.heap.size, l.length, c, rfl, hB, heap_alloc_new w _, Nat.le_refl _, by unfold maxLen; omega, by rw [hz]; omega, by rw [hc, List.take_of_length_le (by simp)]⟩⟩
theorem be4_cells (s : Nat) (hs : s < 4294967296) : (#[Value.int .u8 ((s : Int) / 16777216), .int .u8 ((s : Int) / 65536 % 256), .int .u8 ((s : Int) / 256 % 256), .int .u8 ((s : Int) % 256)] : Array Value).toList = cB (be4 s) := by
  simp only [cB, be4, List.map_cons, List.map_nil]
  congr
  all_goals (simp <;> omega)

theorem deflateP_length (l : List UInt8) : (deflateP l).length ≤ 6 * l.length + 5 := by
  have := storedF_length (l.length + 1) l (by omega)
  unfold deflateP
  split
  · exact this
  · unfold stored at *; omega

set_option maxRecDepth 100000 in
set_option maxHeartbeats 1000000 in
theorem pack_any (a : Option Addr) (N cap : Nat) (l : List UInt8) (w : World) (hl : l.length ≤ 1073741824) (h : RB w a N cap l) :
    Calls Try.prog 40 #[.slice a N cap] w (RetB w (packP l)) := by
  have hD := fun w => deflate_any a N cap l w hl
  have hS := fun w => sum_any a N cap l w
  have hdl := deflateP_length l
  have hal := adler_lt l
  unfold packP
  generalize deflateP l = D at *
  generalize adler l = s at *
  obtain ⟨P, hP⟩ : ∃ P, P = [120, 1] ++ D ++ be4 s := ⟨_, rfl⟩
  rw [← hP]
  have HP := Lib.hid hP
  clear hP
  go_enter Try.func40, Try.ntmps40
  go_wp2_with (first
    | (go_at_call 64; go_must (refine (hS _ h).mono ?_); rintro e w1 ⟨rfl, rfl⟩)
    | (go_at_call 24; go_must (refine (hD _ (rd_below0 h ((Below.refl _ _).alloc (Nat.le_refl _) _))).mono ?_); rintro e w1 ⟨a1, c1, rfl, ho1, hb1⟩
       have k1 := ob_made (w := w) (B := w.heap.size) (c := #[.int .u8 120, .int .u8 1]) (l := [120, 1]) rfl rfl rfl (by decide) (Nat.le_refl _)
       have hz1 := hb1.size
       rw [World.size_alloc] at hz1
       have hw1 : Below w.heap.size w w1 := ((Below.refl _ _).alloc (Nat.le_refl _) _).trans (hb1.mono (by simp)))
    | (at_builtin; have _t := hgrew2; go_must (refine wpList_appB rfl _ _ rfl w.heap.size a2 (2 + D.length) c2 _ rfl (hown2.alloc _) _ 4 4 (be4 s) rfl (rb_news rfl (be4_cells s hal) rfl (by decide)) (by omega) (by simp; omega) ?_); intro a3 c3 w3 hown3 hgrew3)
    | (at_builtin; go_must (refine wpList_appB rfl _ _ rfl w.heap.size (some ⟨w.heap.size, 0, none⟩) 2 2 [120, 1] rfl (own_mod k1 (Mod.of_below hb1) (fun g hg h => by simp [blk] at hg; simp at h; omega)) _ D.length c1 D rfl ho1.rb (by omega) (by omega) ?_); intro a2 c2 w2 hown2 hgrew2
       have hb2 := below_grew hw1 hgrew2 (by omega) (fun g hg => by simp [blk] at hg; omega)
       have hz2 := hb2.size))
  go_ret
  have hb3 := below_grew (hb2.alloc hz2 _) hgrew3 (by simp; omega) (fun g hg => (hown2.blk g hg).1)
  have e : P.length = 2 + D.length + 4 := by rw [HP.out]; simp [be4]; omega
  exact ⟨a3, c3, by rw [e]; rfl, by rw [e, HP.out]; exact hown3, hb3⟩

set_option maxRecDepth 100000 in
set_option maxHeartbeats 1000000 in
theorem refPack_any (a : Option Addr) (N cap : Nat) (l : List UInt8) (w : World) (hl : l.length ≤ 1073741824) (h : RB w a N cap l) :
    Calls Try.prog 41 #[.slice a N cap] w (RetB w (packP l)) := by
  have hD := fun w => refDeflate_any a N cap l w hl
  have hS := fun w => refSum_any a N cap l w
  have hdl := deflateP_length l
  have hal := adler_lt l
  unfold packP
  generalize deflateP l = D at *
  generalize adler l = s at *
  obtain ⟨P, hP⟩ : ∃ P, P = [120, 1] ++ D ++ be4 s := ⟨_, rfl⟩
  rw [← hP]
  have HP := Lib.hid hP
  clear hP
  go_enter Try.func41, Try.ntmps41
  go_wp2_with (first
    | (go_at_call 66; go_must (refine (hS _ (rd_below0 h hb2)).mono ?_); rintro e w9 ⟨rfl, rfl⟩)
    | (go_at_call 25; go_must (refine (hD _ (rd_below0 h ((Below.refl _ _).alloc (Nat.le_refl _) _))).mono ?_); rintro e w1 ⟨a1, c1, rfl, ho1, hb1⟩
       have k1 := ob_made (w := w) (B := w.heap.size) (c := #[.int .u8 120, .int .u8 1]) (l := [120, 1]) rfl rfl rfl (by decide) (Nat.le_refl _)
       have hz1 := hb1.size
       rw [World.size_alloc] at hz1
       have hw1 : Below w.heap.size w w1 := ((Below.refl _ _).alloc (Nat.le_refl _) _).trans (hb1.mono (by simp)))
    | (at_builtin; have _t := hgrew2; go_must (refine wpList_appB rfl _ _ rfl w.heap.size a2 (2 + D.length) c2 _ rfl (hown2.alloc _) _ 4 4 (be4 s) rfl (rb_news rfl (be4_cells s hal) rfl (by decide)) (by omega) (by simp; omega) ?_); intro a3 c3 w3 hown3 hgrew3)
    | (at_builtin; go_must (refine wpList_appB rfl _ _ rfl w.heap.size (some ⟨w.heap.size, 0, none⟩) 2 2 [120, 1] rfl (own_mod k1 (Mod.of_below hb1) (fun g hg h => by simp [blk] at hg; simp at h; omega)) _ D.length c1 D rfl ho1.rb (by omega) (by omega) ?_); intro a2 c2 w2 hown2 hgrew2
       have hb2 := below_grew hw1 hgrew2 (by omega) (fun g hg => by simp [blk] at hg; omega)
       have hz2 := hb2.size))
  go_ret
  have hb3 := below_grew (hb2.alloc hz2 _) hgrew3 (by simp; omega) (fun g hg => (hown2.blk g hg).1)
  have e : P.length = 2 + D.length + 4 := by rw [HP.out]; simp [be4]; omega
  exact ⟨a3, c3, by rw [e]; rfl, by rw [e, HP.out]; exact hown3, hb3⟩
end Go.Proofs.Ytpfalaghggjbjaa
