/-
  The walks of deflate.Expand, sluicegateref05.Expand: what pieces make.
  Conditions: the slice reads as a list of pieces, shorter than 2^30.
-/
import Derived.Test.YtpfalaghggjbjaaWG
namespace Go.Proofs.Ytpfalaghggjbjaa
open Go.RowKit

/-- 'It hands back bytes in memory of its own, and a number; of what was there nothing has turned.' -/
def RetBE (w : World) (bs : List UInt8) (n : Nat) (e : Ending) (w' : World) : Prop :=
  ∃ a m c, e = .returned (.tuple #[.slice a m c, .int .i64 (n : Int)]) ∧ OB w' w.heap.size a m c bs ∧ Below w.heap.size w w'

theorem expand_bad {p : Piece} {ps : List Piece} {out : List UInt8} (h : mayB p = false) : expand (p :: ps) out = ([], 2) := by rw [expand, if_pos h]
theorem expand_byte {p : Piece} {ps : List Piece} {out : List UInt8} (h : mayB p = true) (h0 : p.len = 0) : expand (p :: ps) out = expand ps (out ++ [p.byte]) := by rw [expand, if_neg (by rw [h]; simp), if_pos h0]
theorem expand_far {p : Piece} {ps : List Piece} {out : List UInt8} (h : mayB p = true) (h0 : p.len ≠ 0) (h1 : (out.length : Int) < p.dist) : expand (p :: ps) out = ([], 5) := by rw [expand, if_neg (by rw [h]; simp), if_neg h0, if_pos h1]
theorem expand_copy {p : Piece} {ps : List Piece} {out : List UInt8} (h : mayB p = true) (h0 : p.len ≠ 0) (h1 : ¬ (out.length : Int) < p.dist) : expand (p :: ps) out = expand ps (copyN p.len.toNat p.dist.toNat out) := by
  rw [expand, if_neg (by rw [h]; simp), if_neg h0, if_neg h1]
theorem ob_nil (w : World) (B : Nat) : OB w B none 0 0 [] := World.ownsRow_nil _ _ _ _
theorem drop_at {l : List Piece} {i : Nat} (hi : i < l.length) : l.drop i = l.getD i ⟨0, 0, 0⟩ :: l.drop (i + 1) := by
  rw [List.drop_eq_getElem_cons hi]
  simp [List.getD, List.getElem?_eq_getElem hi]

set_option maxRecDepth 100000 in
set_option maxHeartbeats 2000000 in
theorem expand_any (a : Option Addr) (N cap : Nat) (l : List Piece) (w : World) (hl : l.length ≤ 1073741824) (h : RP w a N cap l) :
    Calls Try.prog 33 #[.slice a N cap] w (RetBE w (expand l []).1 (expand l []).2) := by
  obtain rfl := RP.len h
  go_enter Try.func33, Try.ntmps33
  go_wp2
  go_loopw [4, 9] (fun v u wr => ∃ (i m c : Nat) (b : Option Addr) (bs : List UInt8), v = .slice b m c ∧ u = .int .i64 i ∧ i ≤ l.length ∧ OB wr w.heap.size b m c bs ∧ m ≤ 258 * i ∧ expand (l.drop i) bs = expand l [] ∧ Below w.heap.size w wr)
    (fun _ u _ => l.length - (intOf u).toNat)
  case atStart => exact ⟨0, 0, 0, none, [], rfl, rfl, by omega, ob_nil _ _, by omega, rfl, Below.refl _ _⟩
  case round =>
    obtain ⟨i, m, c, b, bs, rfl, rfl, hi, hown, hm, hex, hbel⟩ := hrel
    have Hex := Lib.hid hex
    have hsz := hbel.size
    have hbb := fun g hg => (hown.blk g hg).1
    clear hex
    by_cases hlt : i < l.length
    · have hr : RP wr a l.length cap l := rd_below0 h hbel
      obtain ⟨bb, off, hidx, hc⟩ := Rd.open hr 26 31 Try.underlying26 (by kernel_rfl)
      obtain ⟨c0, c1, c2⟩ := rp_cells hc hlt
      have hd := drop_at hlt
      rw [hd] at Hex
      generalize l.getD i ⟨0, 0, 0⟩ = p at *
      obtain ⟨pl, pd, pb⟩ := p
      simp only at c0 c1 c2
      clear hc hd
      by_cases hmay : mayB ⟨pl, pd, pb⟩ = true
      · rcases mayB_cases hmay with ⟨h0, h1⟩ | ⟨h0, h1, h2, h3, h4⟩
        · simp only at h0 h1
          subst h0 h1
          have Hm := Lib.hid hmay
          go_wp2_with (first | (go_at_call 58; go_must (refine (may_any ⟨0, 0, pb⟩ _).mono ?_); rintro e w' ⟨rfl, o, rfl⟩) | (at_builtin; go_must (refine wpList_appB rfl _ _ rfl w.heap.size b m c bs rfl (((hown.alloc _).alloc _).alloc _) _ 1 1 [pb] rfl (rb_new _ _ _ _ pb (by simp) rfl) (by omega) (by simp; omega) ?_); intro a' c' w1 hown1 hgrew))
          have hb1 := below_grew (((hbel.alloc (by omega) _).alloc (by simp; omega) _).alloc (by simp; omega) _) hgrew (by simp; omega) hbb
          go_roundw
          case rel => exact ⟨i + 1, m + 1, c', a', bs ++ [pb], rfl, by go_num, by omega, hown1, by omega, by rw [← Hex.out, expand_byte Hm.out rfl], hb1⟩
          case measure => simp [intOf]; omega
        · simp only at h0 h1 h2 h3 h4
          subst h4
          obtain ⟨n0, rfl⟩ := Int.eq_ofNat_of_zero_le (show 0 ≤ pl by omega)
          obtain ⟨d0, rfl⟩ := Int.eq_ofNat_of_zero_le (show 0 ≤ pd by omega)
          have Hm := Lib.hid hmay
          have e0 : ((n0 : Int) == 0) = false := by simp; omega
          by_cases hfar : m < d0
          · have e1 : decide ((m : Int) < d0) = true := by simp; omega
            go_wp2_with (go_at_call 58; go_must (refine (may_any ⟨n0, d0, 0⟩ _).mono ?_); rintro e w' ⟨rfl, o, rfl⟩)
            go_ret2
            have e : expand l [] = ([], 5) := by rw [← Hex.out, expand_far Hm.out (by simp; omega) (by have := hown.rb.len; simp only; omega)]
            rw [e]
            exact ⟨none, 0, 0, rfl, ob_nil _ _, (hbel.alloc (by omega) _).alloc (by simp; omega) _⟩
          · have e1 : decide ((d0 : Int) ≤ m) = true := by simp; omega
            have hml := hown.rb.len
            have Hml := Lib.hid hml
            have hx : expand (l.drop (i + 1)) (copyN n0 d0 bs) = expand l [] := by
              rw [← Hex.out, expand_copy Hm.out (by simp; omega) (by simp only; omega)]; rfl
            have Hx := Lib.hid hx
            clear hx hml
            go_wp2_with (go_at_call 58; go_must (refine (may_any ⟨n0, d0, 0⟩ _).mono ?_); rintro e w' ⟨rfl, o, rfl⟩)
            obtain ⟨wo, rfl⟩ : ∃ wo : World, wo = wr := ⟨_, rfl⟩
            have hX : ((wo.alloc (.cells #[.int .i64 (n0 : Int), .int .i64 (d0 : Int), .int .u8 0] 31)).alloc o).heap[wo.heap.size]? = some (.cells #[.int .i64 (n0 : Int), .int .i64 (d0 : Int), .int .u8 0] 31 (0, 0)) := heap_alloc (heap_alloc_new wo _) o
            have hb0 : Below w.heap.size w ((wo.alloc (.cells #[.int .i64 (n0 : Int), .int .i64 (d0 : Int), .int .u8 0] 31)).alloc o) := (hbel.alloc (by omega) _).alloc (by simp; omega) _
            go_loopw [4, 31] (fun v u wy => ∃ (k c' : Nat) (a' : Option Addr) (bs' : List UInt8), v = .slice a' (m + k) c' ∧ u = .int .i64 k ∧ k ≤ n0 ∧ OB wy w.heap.size a' (m + k) c' bs' ∧ copyN (n0 - k) d0 bs' = copyN n0 d0 bs ∧ Below w.heap.size w wy ∧
                wy.heap[wo.heap.size]? = some (.cells #[.int .i64 (n0 : Int), .int .i64 (d0 : Int), .int .u8 0] 31 (0, 0)))
              (fun _ u _ => n0 - (intOf u).toNat)
            case atStart => exact ⟨0, c, b, bs, rfl, rfl, by omega, (hown.alloc _).alloc _, rfl, hb0, hX⟩
            case round =>
              obtain ⟨k, c', a', bs', rfl, rfl, hk, hown', hcp, hby, hXy⟩ := hrel
              have Hcp := Lib.hid hcp
              clear hcp
              by_cases hkn : k < n0
              · have hl' := hown'.rb.len
                have Hl' := Lib.hid hl'
                have hszy := hby.size
                have hby' := fun g hg => (hown'.blk g hg).1
                obtain ⟨pb, poff, pidx, pcell⟩ := Rd.open hown'.rb 22 5 Try.underlying22 (by kernel_rfl)
                have e2 : _ = some (Value.int .u8 (at8 bs' (m + k - d0))) := (pcell (m + k - d0) (by rw [length_cB]; omega)).trans (by rw [cB_get])
                have cd := cell_at (j := 1) hXy rfl
                clear pcell hl'
                go_wp2_with (at_builtin; go_must (refine wpList_appB rfl _ _ rfl w.heap.size a' (m + k) c' bs' rfl (hown'.alloc _) _ 1 1 [bs'.getD (m + k - d0) 0] rfl (rb_new _ _ _ _ (bs'.getD (m + k - d0) 0) rfl rfl) (by omega) (by simp; omega) ?_); intro a'' c'' w1 hown1 hgrew)
                have hb1 := below_grew (hby.alloc (by omega) _) hgrew (by simp; omega) hby'
                have hX1 := heap_grew hgrew (heap_alloc hXy _) (own_ne_cells hown' hXy (by decide))
                go_roundw
                case rel => exact ⟨k + 1, c'', a'', bs' ++ [bs'.getD (m + k - d0) 0], rfl, by go_num, by omega, hown1, by rw [← Hcp.out, copyN_step hkn, ← Hl'.out], hb1, hX1⟩
                case measure => simp [intOf]; omega
              · have hkn' : k = n0 := by omega
                subst hkn'
                have hx' : expand (l.drop (i + 1)) bs' = expand l [] := by rw [← Hx.out, ← Hcp.out, Nat.sub_self]; rfl
                have Hx' := Lib.hid hx'
                clear hx'
                go_wp2
                go_roundw
                case rel => exact ⟨i + 1, m + k, c', a', bs', rfl, by go_num, by omega, hown', by omega, Hx'.out, hby⟩
                case measure => simp [intOf]; omega
      · have hmf : mayB ⟨pl, pd, pb⟩ = false := by simpa using hmay
        go_wp2_with (go_at_call 58; go_must (refine (may_any ⟨pl, pd, pb⟩ _).mono ?_); rintro e w' ⟨rfl, o, rfl⟩)
        go_ret2
        have e : expand l [] = ([], 2) := by rw [← Hex.out, expand_bad hmf]
        rw [e]
        exact ⟨none, 0, 0, rfl, ob_nil _ _, (hbel.alloc (by omega) _).alloc (by simp; omega) _⟩
    · go_wp2
      go_ret2
      have e : expand l [] = (bs, 0) := by rw [← Hex.out, List.drop_of_length_le (by omega)]; rfl
      rw [e]
      exact ⟨b, m, c, rfl, hown, hbel⟩

set_option maxRecDepth 100000 in
set_option maxHeartbeats 2000000 in
theorem refExpand_any (a : Option Addr) (N cap : Nat) (l : List Piece) (w : World) (hl : l.length ≤ 1073741824) (h : RP w a N cap l) :
    Calls Try.prog 74 #[.slice a N cap] w (RetBE w (expand l []).1 (expand l []).2) := by
  obtain rfl := RP.len h
  obtain ⟨bb, off, hidx, hc⟩ := Rd.open h 26 31 Try.underlying26 (by kernel_rfl)
  have hcs := fun i hi => @rp_cells w bb off l hc i hi
  clear hc
  go_enter Try.func74, Try.ntmps74
  go_wp2
  go_loopw [4, 5] (fun v u wr => ∃ (i m c : Nat) (b : Option Addr) (bs : List UInt8), v = .slice b m c ∧ u = .int .i64 i ∧ i ≤ l.length ∧ OB wr w.heap.size b m c bs ∧ m ≤ 258 * i ∧ expand (l.drop i) bs = expand l [] ∧ Below w.heap.size w wr)
    (fun _ u _ => l.length - (intOf u).toNat)
  case atStart => exact ⟨0, 0, 0, none, [], rfl, rfl, by omega, ob_nil _ _, by omega, rfl, Below.refl _ _⟩
  case round =>
    obtain ⟨i, m, c, b, bs, rfl, rfl, hi, hown, hm, hex, hbel⟩ := hrel
    have Hex := Lib.hid hex
    have hsz := hbel.size
    have hbb := fun g hg => (hown.blk g hg).1
    clear hex
    by_cases hlt : i < l.length
    · obtain ⟨w0, w1, w2⟩ := hcs i hlt
      have hd := drop_at hlt
      rw [hd] at Hex
      generalize l.getD i ⟨0, 0, 0⟩ = p at *
      obtain ⟨pl, pd, pb⟩ := p
      simp only at w0 w1 w2
      have c0 := cell_below w0 hbel
      have c1 := cell_below w1 hbel
      have c2 := cell_below w2 hbel
      clear hd hcs
      by_cases hmay : mayB ⟨pl, pd, pb⟩ = true
      · rcases mayB_cases hmay with ⟨h0, h1⟩ | ⟨h0, h1, h2, h3, h4⟩
        · simp only at h0 h1
          subst h0 h1
          have Hm := Lib.hid hmay
          have c0' : ∀ o, (wr.alloc o).cell? _ = some (Value.int .i64 0) := fun o => cell_below c0 ((Below.refl _ wr).alloc (Nat.le_refl _) o)
          have c2' : ∀ o, (wr.alloc o).cell? _ = some (Value.int .u8 (pb.toNat : Int)) := fun o => cell_below c2 ((Below.refl _ wr).alloc (Nat.le_refl _) o)
          go_wp2_with (first | (go_at_call 96; go_must (refine (refMay_any ⟨0, 0, pb⟩ _).mono ?_); rintro e w' ⟨rfl, o, rfl⟩) | (at_builtin; go_must (refine wpList_appB rfl _ _ rfl w.heap.size b m c bs rfl ((hown.alloc _).alloc _) _ 1 1 [pb] rfl (rb_new _ _ _ _ pb (by simp) rfl) (by omega) (by simp; omega) ?_); intro a' c' w1 hown1 hgrew))
          have hb1 := below_grew ((hbel.alloc (by omega) _).alloc (by simp; omega) _) hgrew (by simp; omega) hbb
          go_roundw
          case rel => exact ⟨i + 1, m + 1, c', a', bs ++ [pb], rfl, by go_num, by omega, hown1, by omega, by rw [← Hex.out, expand_byte Hm.out rfl], hb1⟩
          case measure => simp [intOf]; omega
        · simp only at h0 h1 h2 h3 h4
          subst h4
          obtain ⟨n0, rfl⟩ := Int.eq_ofNat_of_zero_le (show 0 ≤ pl by omega)
          obtain ⟨d0, rfl⟩ := Int.eq_ofNat_of_zero_le (show 0 ≤ pd by omega)
          have Hm := Lib.hid hmay
          have e0 : ((n0 : Int) == 0) = false := by simp; omega
          have c0' : ∀ o, (wr.alloc o).cell? _ = some (Value.int .i64 (n0 : Int)) := fun o => cell_below c0 ((Below.refl _ wr).alloc (Nat.le_refl _) o)
          have c1' : ∀ o, (wr.alloc o).cell? _ = some (Value.int .i64 (d0 : Int)) := fun o => cell_below c1 ((Below.refl _ wr).alloc (Nat.le_refl _) o)
          by_cases hfar : m < d0
          · have e1 : decide ((m : Int) < d0) = true := by simp; omega
            go_wp2_with (go_at_call 96; go_must (refine (refMay_any ⟨n0, d0, 0⟩ _).mono ?_); rintro e w' ⟨rfl, o, rfl⟩)
            go_ret2
            have e : expand l [] = ([], 5) := by rw [← Hex.out, expand_far Hm.out (by simp; omega) (by have := hown.rb.len; simp only; omega)]
            rw [e]
            exact ⟨none, 0, 0, rfl, ob_nil _ _, hbel.alloc (by omega) _⟩
          · have e1 : decide ((d0 : Int) ≤ m) = true := by simp; omega
            have hml := hown.rb.len
            have Hml := Lib.hid hml
            have hx : expand (l.drop (i + 1)) (copyN n0 d0 bs) = expand l [] := by
              rw [← Hex.out, expand_copy Hm.out (by simp; omega) (by simp only; omega)]; rfl
            have Hx := Lib.hid hx
            clear hx hml
            go_wp2_with (go_at_call 96; go_must (refine (refMay_any ⟨n0, d0, 0⟩ _).mono ?_); rintro e w' ⟨rfl, o, rfl⟩)
            obtain ⟨wo, rfl⟩ : ∃ wo : World, wo = wr := ⟨_, rfl⟩
            have hb0 : Below w.heap.size w (wo.alloc o) := hbel.alloc (by omega) _
            have hown0 : OB (wo.alloc o) w.heap.size b m c bs := hown.alloc _
            clear c0 c1 c2 c0' c1' hown hbel
            go_loopw [4, 6] (fun v u wy => ∃ (k c' : Nat) (a' : Option Addr) (bs' : List UInt8), v = .slice a' (m + k) c' ∧ u = .int .i64 k ∧ k ≤ n0 ∧ OB wy w.heap.size a' (m + k) c' bs' ∧ copyN (n0 - k) d0 bs' = copyN n0 d0 bs ∧ Below w.heap.size w wy)
              (fun _ u _ => n0 - (intOf u).toNat)
            case atStart => exact ⟨0, c, b, bs, rfl, rfl, by omega, hown0, rfl, hb0⟩
            case round =>
              obtain ⟨k, c', a', bs', rfl, rfl, hk, hown', hcp, hby⟩ := hrel
              have Hcp := Lib.hid hcp
              clear hcp
              have c0 := cell_below w0 hby
              have c1 := cell_below w1 hby
              by_cases hkn : k < n0
              · have hl' := hown'.rb.len
                have Hl' := Lib.hid hl'
                have hszy := hby.size
                have hby' := fun g hg => (hown'.blk g hg).1
                obtain ⟨pb, poff, pidx, pcell⟩ := Rd.open hown'.rb 22 5 Try.underlying22 (by kernel_rfl)
                have e2 : _ = some (Value.int .u8 (at8 bs' (m + k - d0))) := (pcell (m + k - d0) (by rw [length_cB]; omega)).trans (by rw [cB_get])
                clear pcell hl'
                go_wp2_with (at_builtin; go_must (refine wpList_appB rfl _ _ rfl w.heap.size a' (m + k) c' bs' rfl (hown'.alloc _) _ 1 1 [bs'.getD (m + k - d0) 0] rfl (rb_new _ _ _ _ (bs'.getD (m + k - d0) 0) rfl rfl) (by omega) (by simp; omega) ?_); intro a'' c'' w1 hown1 hgrew)
                have hb1 := below_grew (hby.alloc (by omega) _) hgrew (by simp; omega) hby'
                go_roundw
                case rel => exact ⟨k + 1, c'', a'', bs' ++ [bs'.getD (m + k - d0) 0], rfl, by go_num, by omega, hown1, by rw [← Hcp.out, copyN_step hkn, ← Hl'.out], hb1⟩
                case measure => simp [intOf]; omega
              · have hkn' : k = n0 := by omega
                subst hkn'
                have hx' : expand (l.drop (i + 1)) bs' = expand l [] := by rw [← Hx.out, ← Hcp.out, Nat.sub_self]; rfl
                have Hx' := Lib.hid hx'
                clear hx'
                go_wp2
                go_roundw
                case rel => exact ⟨i + 1, m + k, c', a', bs', rfl, by go_num, by omega, hown', by omega, Hx'.out, hby⟩
                case measure => simp [intOf]; omega
      · have hmf : mayB ⟨pl, pd, pb⟩ = false := by simpa using hmay
        go_wp2_with (go_at_call 96; go_must (refine (refMay_any ⟨pl, pd, pb⟩ _).mono ?_); rintro e w' ⟨rfl, o, rfl⟩)
        go_ret2
        have e : expand l [] = ([], 2) := by rw [← Hex.out, expand_bad hmf]
        rw [e]
        exact ⟨none, 0, 0, rfl, ob_nil _ _, hbel.alloc (by omega) _⟩
    · go_wp2
      go_ret2
      have e : expand l [] = (bs, 0) := by rw [← Hex.out, List.drop_of_length_le (by omega)]; rfl
      rw [e]
      exact ⟨b, m, c, rfl, hown, hbel⟩
end Go.Proofs.Ytpfalaghggjbjaa
