/-
  The walks of huffman.reader's closure, huffman.Read, inflate's reader's symbol.
  Conditions: a code that may be, of at most 320 lengths; bytes that nobody writes meanwhile, no more than 2^30.
-/
import Derived.Test.YtpfalaghggjbjaaYB
import Derived.Test.YtpfalaghggjbjaaPlL
import Derived.Deep.RegionHeld3
namespace Go.Proofs.Ytpfalaghggjbjaa
open Go.RowKit

/-- A symbol, how many bits it took; or the error. -/
def SymRet (r : R Nat) (t : Nat) (e : Ending) : Prop := match r with
  | .ok s t' _ => e = .returned (.tuple #[.int .i64 (s : Int), .int .i64 ((t' - t : Nat) : Int), .int .i64 0])
  | .no er => e = .returned (.tuple #[.int .i64 0, .int .i64 0, .int .i64 (er : Int)])
def SymPost (r : R Nat) (t : Nat) (S : Nat → Prop) (w : World) (e : Ending) (w' : World) : Prop := SymRet r t e ∧ Mod S w w'
theorem Rdr.mod {S : Nat → Prop} {w w' : World} {B pl pt pb pf pn ps N cap t : Nat} {L : List Nat} {a0 : Option Addr} (h : Rdr w B pl pt pb pf pn ps L a0 N cap t) (hm : Mod S w w') (hs : ∀ g, ¬ S g) : Rdr w' B pl pt pb pf pn ps L a0 N cap t :=
  ⟨heap_mod hm h.l (hs _), heap_mod hm h.t (hs _), heap_mod hm h.b (hs _), heap_mod hm h.f (hs _), heap_mod hm h.n (hs _), h.s.mod hm (fun g hg => (hs g hg).elim), h.ne, h.lt⟩
theorem Rdr.set {w : World} {B pl pt pb pf pn ps N cap t : Nat} {L : List Nat} {a0 : Option Addr} (h : Rdr w B pl pt pb pf pn ps L a0 N cap t) (t' : Nat) {x : Int} (hx : x = (t' : Int)) : Rdr (w.setCell ⟨pt, 0, none⟩ (.int .i64 x)) B pl pt pb pf pn ps L a0 N cap t' := by
  subst hx
  have hne : ∀ {q e : Nat} {C : Array Value}, w.heap[q]? = some (.cells C e (0, 0)) → e ≠ 3 → pt ≠ q := fun hq he e => by
    have := h.t; rw [e, hq] at this; simp at this; exact he this.2
  obtain ⟨A, c, h1, h2, h3⟩ := h.s
  exact ⟨heap_set_other h.l (fun (e : pt = pl) => h.ne e.symm) _, heap_set (j := 0) h.t _, heap_set_other h.b (hne h.b (by decide)) _, heap_set_other h.f (hne h.f (by decide)) _, heap_set_other h.n (hne h.n (by decide)) _,
    ⟨A, c, heap_set_other h1 (hne h1 (by decide)) _, fun k hk => oi_set (h2 k hk) (fun e => by have := (own_blk (h2 k hk) _ e).1; have := h.lt; simp at *; omega) _, h3⟩, h.ne, h.lt⟩
theorem or_code (x y : Nat) (hx : x < 65536) (hy : y < 2) : bits .or .i64 ((x : Int) * 2) (y : Int) = ((2 * x + y : Nat) : Int) := by
  show IntKind.i64.wrap (((BitVec.ofInt 64 ((x : Int) * 2) ||| BitVec.ofInt 64 (y : Int)).toNat : Nat) : Int) = _
  have h : (BitVec.ofInt 64 ((x : Int) * 2) ||| BitVec.ofInt 64 (y : Int)).toNat = 2 * x + y := by
    rw [BitVec.toNat_or, BitVec.toNat_ofInt, BitVec.toNat_ofInt]
    have e3 : (((x : Int) * 2) % ((2 ^ 64 : Nat) : Int)).toNat = x * 2 ^ 1 := by omega
    have e4 : ((y : Int) % ((2 ^ 64 : Nat) : Int)).toNat = y := by omega
    rw [e3, e4, ← Nat.shiftLeft_eq, ← Nat.shiftLeft_add_eq_or_of_lt (by omega), Nat.shiftLeft_eq]
    omega
  rw [h]
  exact wrap_small_i64 (by omega) (by omega)

set_option maxRecDepth 100000 in
set_option maxHeartbeats 4000000 in
theorem close_any (B pl pt pb pf pn ps N cap t : Nat) (L : List Nat) (a0 : Option Addr) (b : List UInt8) (w : World) (hl : L.length ≤ 320) (h15 : ∀ x ∈ L, x ≤ 15) (h : Rdr w B pl pt pb pf pn ps L a0 N cap t)
    (hN : N = b.length) (hbl : b.length ≤ 1073741824) (ht : t ≤ 8 * b.length) (hb : ∀ w', Mod (fun k => k = pt) w w' → RB w' a0 N cap b) :
    Calls Try.prog 122 #[.pointer (some ⟨pl, 0, none⟩), .pointer (some ⟨pt, 0, none⟩), .pointer (some ⟨pb, 0, none⟩), .pointer (some ⟨pf, 0, none⟩), .pointer (some ⟨pn, 0, none⟩), .pointer (some ⟨ps, 0, none⟩)] w (SymPost (symM L b 0 t []) t (fun k => k = pt) w) := by
  subst hN
  have hmax : maxOf L ≤ 15 := by rw [← maxT_all]; exact maxT_le h15 _
  have Hb := Lib.hid hb
  clear hb
  go_enter Try.func122, Try.ntmps122
  go_wp2
  go_loopw [9, 10] (fun u v wr => ∃ i x : Nat, u = .int .i64 x ∧ v = .int .i64 i ∧ 1 ≤ i ∧ i ≤ maxOf L + 1 ∧ x < 2 ^ (i - 1) ∧ Rdr wr B pl pt pb pf pn ps L a0 b.length cap (t + (i - 1)) ∧ Mod (fun k => k = pt) w wr ∧ symGo L (maxOf L - (i - 1)) i x b 0 (t + (i - 1)) [] = symM L b 0 t [])
    (fun _ v _ => 17 - (intOf v).toNat)
  case atStart => exact ⟨1, 0, rfl, rfl, by omega, by omega, by decide, h, Mod.refl _ _, rfl⟩
  case round =>
    obtain ⟨i, x, rfl, rfl, hi1, hi2, hx, hR, hM, hF⟩ := hrel
    have HF := Lib.hid hF
    clear hF
    have cl := cell_at (j := 0) hR.l rfl
    by_cases him : i ≤ maxOf L
    · have dm : decide (maxOf L < i) = false := by simp; omega
      have ct := cell_at (j := 0) hR.t rfl
      have cb := cell_at (j := 0) hR.b rfl
      have ft := free_at (j := 0) hR.t
      obtain ⟨t', ht'⟩ : ∃ t', t' = t + (i - 1) := ⟨_, rfl⟩
      rw [← ht'] at ct hR HF
      have ht9 : t' ≤ 8589934608 := by omega
      have Ht' := Lib.hid ht'
      clear ht'
      by_cases htb : t' / 8 < b.length
      · have d2 : decide ((b.length : Int) ≤ (t' : Int) / 8) = false := by simp; omega
        obtain ⟨b8, off, hidx, hc⟩ := Rd.open (Hb.out wr hM) 22 5 Try.underlying22 (by kernel_rfl)
        have e1 : wr.cell? ⟨b8, off + t' / 8, none⟩ = some (.int .u8 (at8 b (t' / 8))) := by rw [hc (t' / 8) (by simpa using htb), cB_get]
        have j1 := idx_in hidx .i64 (t' / 8) ((t' : Int) / 8) (by omega) htb
        clear hc hidx
        have hx16 : x < 65536 := Nat.lt_of_lt_of_le hx (Nat.pow_le_pow_right (by omega) (show i - 1 ≤ 16 by omega))
        obtain ⟨y, hy, hy2⟩ : ∃ y, y = (b.getD (t' / 8) 0).toNat / 2 ^ (t' % 8) % 2 ∧ y < 2 := ⟨_, rfl, Nat.mod_lt _ (by decide)⟩
        have hcode : bits .or .i64 ((x : Int) * 2) (wrap64 (bits .and .u8 (at8 b (t' / 8) / 2 ^ (t' % 8)) 1)) = ((2 * x + y : Nat) : Int) := by
          have h8 := (b.getD (t' / 8) 0).toNat_lt
          have hd : (b.getD (t' / 8) 0).toNat / 2 ^ (t' % 8) ≤ (b.getD (t' / 8) 0).toNat := Nat.div_le_self _ _
          have e : at8 b (t' / 8) / 2 ^ (t' % 8) = (((b.getD (t' / 8) 0).toNat / 2 ^ (t' % 8) : Nat) : Int) := by unfold at8; simp
          rw [e, and_one8 _ (by omega), ← hy, wrap64_small (by omega) (by omega)]
          exact or_code x y hx16 hy2
        have hbit : bitM b 0 t' [] = .ok y (t' + 1) [] := by unfold bitM; rw [bit?_some htb, ← hy]
        have Hbit := Lib.hid hbit
        have hx2 : 2 * x + y < 2 ^ i := by
          obtain ⟨d, rfl⟩ : ∃ d, i = d + 1 := ⟨i - 1, by omega⟩
          rw [Nat.pow_succ]; simp at hx; omega
        have hx32 : 2 * x + y < 131072 := by omega
        have Hcode := Lib.hid hcode
        clear hcode hy hbit
        go_wp2
        go_quiet (fail)
        rw [Hcode.out]
        clear Hcode e1 j1
        obtain ⟨wd, hwd, hRd, hMd⟩ : ∃ wd, wd = wr.drewN nq ∧ Rdr wd B pl pt pb pf pn ps L a0 b.length cap t' ∧ Mod (fun k => k = pt) w wd := ⟨_, rfl, hR.mod (Mod.drewN _ _ _) (fun _ h => h), hM.drewN' nq⟩
        rw [← hwd]
        have cl := cell_at (j := 0) hRd.l rfl
        have ct := cell_at (j := 0) hRd.t rfl
        have ft := free_at (j := 0) hRd.t
        have hR2 := hRd.set (t' + 1) (x := (t' : Int) + 1) (by omega)
        have hM2 : Mod (fun k => k = pt) w (wd.setCell ⟨pt, 0, none⟩ (.int .i64 ((t' : Int) + 1))) := hMd.setCell _ _ (fun _ => rfl)
        have cf := arr_cellN hR2.f (j := i) (by rw [← firstsT_all, firstsT_length]; omega)
        have cn := arr_cellN hR2.n (j := i) (by rw [cnt_length]; omega)
        have ef : atN (firstsN (cnt L)) i = firstOf (cnt L) i := by rw [← firstsT_all, atN_firstsT _ (by omega), if_pos (by omega)]
        have en : atN (cnt L) i = (posOf L i).length := by rw [atN_cnt L (by omega), posOf_length]
        rw [ef] at cf
        rw [en] at cn
        have hF9 : firstOf (cnt L) i ≤ 20971520 := Nat.le_trans (firstOf_le (cnt L) 320 (fun k => Nat.le_trans (atN_le_of (cnt_le L) k) hl) i) (Nat.le_trans (Nat.mul_le_mul_left 320 (Nat.pow_le_pow_right (by omega) (show i ≤ 16 by omega))) (by decide))
        have hC9 : (posOf L i).length ≤ 320 := by rw [posOf_length]; exact Nat.le_trans List.count_le_length hl
        obtain ⟨ar, cr, cs, -, hown, -⟩ := hR2.s.row (x := i) (by omega)
        have hsym : symOf L i (2 * x + y) = if firstOf (cnt L) i ≤ 2 * x + y then (posOf L i)[2 * x + y - firstOf (cnt L) i]? else none := rfl
        have Hsym := Lib.hid hsym
        clear hsym ef en hwd hR hM
        generalize firstOf (cnt L) i = F at *
        obtain ⟨P, hP⟩ : ∃ P, P = posOf L i := ⟨_, rfl⟩
        rw [← hP] at cn hC9 cs hown Hsym
        clear hP
        obtain ⟨X, hX⟩ : ∃ X, X = 2 * x + y := ⟨_, rfl⟩
        rw [← hX] at Hsym hx2 hx32 ⊢
        have HX := Lib.hid hX
        clear hX
        by_cases hk : F ≤ X ∧ X - F < P.length
        · obtain ⟨hk1, hk2⟩ := hk
          have d4 : decide ((0 : Int) ≤ (X : Int) - F) = true := by simp; omega
          have d5 : decide ((X : Int) - F < P.length) = true := by simp; omega
          obtain ⟨b3, o3, hidx, hc⟩ := Rd.open hown.ri 53 3 Try.underlying53 (by kernel_rfl)
          have e1 := hc (X - F) (by rw [length_cI, natI_length]; exact hk2)
          rw [cI_get, atI_natI] at e1
          have j1 := idx_in hidx .i64 (X - F) ((X : Int) - F) (by omega) hk2
          clear hidx hc
          go_wp2
          go_ret3
          have e : symM L b 0 t [] = .ok (atN P (X - F)) (t' + 1) [] := by
            rw [← HF.out]
            obtain ⟨d, hd⟩ : ∃ d, maxOf L - (i - 1) = d + 1 := ⟨maxOf L - (i - 1) - 1, by omega⟩
            rw [hd]
            show bnd bitM _ b 0 t' [] = _
            rw [bnd_ok Hbit.out, ← HX.out, Hsym.out, if_pos hk1, List.getElem?_eq_getElem hk2]
            show R.ok _ _ _ = _
            unfold atN
            rw [List.getD, List.getElem?_eq_getElem hk2]
            rfl
          rw [e]
          have := Ht'.out
          exact ⟨ret_int3 rfl (by omega) rfl, hM2⟩
        · have e : symGo L (maxOf L - (i + 1 - 1)) (i + 1) X b 0 (t + (i + 1 - 1)) [] = symM L b 0 t [] := by
            rw [← HF.out]
            obtain ⟨d, hd⟩ : ∃ d, maxOf L - (i - 1) = d + 1 := ⟨maxOf L - (i - 1) - 1, by omega⟩
            rw [hd]
            show _ = bnd bitM _ b 0 t' []
            have hno : symOf L i X = none := by
              rw [Hsym.out]
              split
              · rw [List.getElem?_eq_none (by omega)]
              · rfl
            rw [bnd_ok Hbit.out, ← HX.out, hno]
            have := Ht'.out
            rw [show t + (i + 1 - 1) = t' + 1 by omega, show maxOf L - (i + 1 - 1) = d by omega]
          have hR3 : Rdr (wd.setCell ⟨pt, 0, none⟩ (.int .i64 ((t' : Int) + 1))) B pl pt pb pf pn ps L a0 b.length cap (t + (i + 1 - 1)) := by
            have := Ht'.out
            rw [show t + (i + 1 - 1) = t' + 1 by omega]; exact hR2
          have E := Lib.hid e
          have HR3 := Lib.hid hR3
          clear e hR3 hR2
          by_cases hk1 : F ≤ X
          · have hk2 : ¬ X - F < P.length := fun h => hk ⟨hk1, h⟩
            have d4 : decide ((0 : Int) ≤ (X : Int) - F) = true := by simp; omega
            have d5 : decide ((X : Int) - F < P.length) = false := by simp; omega
            go_wp2
            go_roundw
            case rel => exact ⟨i + 1, X, rfl, by go_num, by omega, by omega, by rw [Nat.add_sub_cancel]; exact hx2, HR3.out, hM2, E.out⟩
            case measure => simp [intOf]; omega
          · have d4 : decide ((0 : Int) ≤ (X : Int) - F) = false := by simp; omega
            go_wp2
            go_roundw
            case rel => exact ⟨i + 1, X, rfl, by go_num, by omega, by omega, by rw [Nat.add_sub_cancel]; exact hx2, HR3.out, hM2, E.out⟩
            case measure => simp [intOf]; omega
      · have d2 : decide ((b.length : Int) ≤ (t' : Int) / 8) = true := by simp; omega
        go_wp2
        go_ret3
        have e : symM L b 0 t [] = .no 4 := by
          rw [← HF.out]
          obtain ⟨d, hd⟩ : ∃ d, maxOf L - (i - 1) = d + 1 := ⟨maxOf L - (i - 1) - 1, by omega⟩
          rw [hd]
          have e : bitM b 0 t' [] = .no 4 := by unfold bitM; rw [bit?_none htb]
          exact bnd_no e
        rw [e]
        exact ⟨rfl, hM⟩
    · have dm : decide (maxOf L < i) = true := by simp; omega
      go_wp2
      go_ret3
      have e : symM L b 0 t [] = .no 5 := by
        rw [← HF.out, show maxOf L - (i - 1) = 0 by omega]
        rfl
      rw [e]
      exact ⟨rfl, hM⟩

def ReadPost (r : R Nat) (t : Nat) (w : World) (e : Ending) (w' : World) : Prop := SymRet r t e ∧ Below w.heap.size w w'
set_option maxRecDepth 100000 in
set_option maxHeartbeats 2000000 in
theorem read_any (aL a0 : Option Addr) (nL cL N cap t : Nat) (L : List Nat) (b : List UInt8) (w : World) (hl : L.length ≤ 320) (h15 : ∀ x ∈ L, x ≤ 15) (hok : (checkP L).2 = 0) (h : RI w aL nL cL (natI L))
    (hN : N = b.length) (hbl : b.length ≤ 1073741824) (ht : t ≤ 8 * b.length) (hb : RB w a0 N cap b) :
    Calls Try.prog 111 #[.slice aL nL cL, .slice a0 N cap, .int .i64 (t : Int)] w (ReadPost (symM L b 0 t []) t w) := by
  subst hN
  have hK := fun w h => check_any aL nL cL L w hl h15 h
  have hR := fun w h => reader_any aL a0 nL cL b.length cap t L w hl h15 h
  have hX := fun B pl pt pb pf pn ps w h hb => close_any B pl pt pb pf pn ps b.length cap t L a0 b w hl h15 h rfl hbl ht hb
  unfold ChkPost at hK
  rcases hck : checkP L with ⟨wh, er⟩
  rw [hck] at hok
  simp only at hok
  subst hok
  simp only [hck] at hK
  have Hb := Lib.hid hb
  have ht9 : t ≤ 8589934592 := by omega
  clear hck hb
  cases hr : symM L b 0 t [] with
  | ok s t' o =>
    simp only [hr] at hX
    clear hr
    go_enter Try.func111, Try.ntmps111
    go_wp2_with (first
      | (go_at_call 89; go_must (refine (hK _ h).mono ?_); rintro e w1 ⟨rfl, hb1⟩)
      | (go_at_call 120; go_must (refine (hR _ (rd_below0 h hb1)).mono ?_); rintro e w2 ⟨B, pl, pt, pb, pf, pn, ps, rfl, hrd, hpt, hb2⟩
         have hz1 := hb1.size; have hb12 := hb1.trans (hb2.mono hz1))
      | (go_at_call 122; go_must (refine (hX B pl pt pb pf pn ps w2 hrd (fun w' hm => rd_below0 Hb.out (hb12.trans (hm.below hb12.size (fun k _ hk => by omega))))).mono ?_); rintro e w3 ⟨rfl, hm3⟩))
    go_ret3
    exact ⟨rfl, hb12.trans (hm3.below hb12.size (fun k _ hk => by omega))⟩
  | no er =>
    simp only [hr] at hX
    clear hr
    go_enter Try.func111, Try.ntmps111
    go_wp2_with (first
      | (go_at_call 89; go_must (refine (hK _ h).mono ?_); rintro e w1 ⟨rfl, hb1⟩)
      | (go_at_call 120; go_must (refine (hR _ (rd_below0 h hb1)).mono ?_); rintro e w2 ⟨B, pl, pt, pb, pf, pn, ps, rfl, hrd, hpt, hb2⟩
         have hz1 := hb1.size; have hb12 := hb1.trans (hb2.mono hz1))
      | (go_at_call 122; go_must (refine (hX B pl pt pb pf pn ps w2 hrd (fun w' hm => rd_below0 Hb.out (hb12.trans (hm.below hb12.size (fun k _ hk => by omega))))).mono ?_); rintro e w3 ⟨rfl, hm3⟩))
    go_ret3
    exact ⟨rfl, hb12.trans (hm3.below hb12.size (fun k _ hk => by omega))⟩

/-- What has been told, put in the place of what had been. -/
def R.told {α : Type} (r : R α) (o : List UInt8) : R α := match r with
  | .ok s t _ => .ok s t o
  | .no e => .no e
theorem symM_state (L : List Nat) (b : List UInt8) (m t : Nat) (o : List UInt8) : symM L b m t o = (symM L b 0 t []).told o := by
  have key : ∀ f i x t, symGo L f i x b m t o = (symGo L f i x b 0 t []).told o := by
    intro f
    induction f with
    | zero => intro i x t; rfl
    | succ f ih =>
      intro i x t
      show bnd bitM _ b m t o = R.told (bnd bitM _ b 0 t []) o
      cases hb : bit? b t with
      | none =>
        have e1 : bitM b m t o = .no 4 := by unfold bitM; rw [hb]
        have e2 : bitM b 0 t [] = .no 4 := by unfold bitM; rw [hb]
        rw [bnd_no e1, bnd_no e2]
        rfl
      | some y =>
        have e1 : bitM b m t o = .ok y (t + 1) o := by unfold bitM; rw [hb]
        have e2 : bitM b 0 t [] = .ok y (t + 1) [] := by unfold bitM; rw [hb]
        rw [bnd_ok e1, bnd_ok e2]
        cases symOf L i (2 * x + y) with
        | some s => rfl
        | none => exact ih _ _ _
  exact key _ _ _ _

section
variable {p B : Nat} {a0 : Option Addr} {cap : Nat} {b : List UInt8} {m : Nat} {w : World} {t : Nat} {o : List UInt8} {er : Nat} {a : Option Addr}
set_option maxRecDepth 100000 in
set_option maxHeartbeats 1000000 in
theorem symbol_dead (v : Value) (h : Rr p B a0 cap b m w t o er a) (he : er ≠ 0) : Calls Try.prog 100 #[.pointer (some ⟨p, 0, none⟩), v] w (Still w (.int .i64 0)) := by
  obtain ⟨c, c0, c1, c2, c3, c4, f1, f2, f4, -⟩ := h.cells
  have d : ((er : Int) != 0) = true := by simp; omega
  go_enter Try.func100, Try.ntmps100
  go_wp2
  go_ret
  exact ⟨rfl, rfl⟩
set_option maxRecDepth 100000 in
set_option maxHeartbeats 2000000 in
theorem symbol_live (aL : Option Addr) (nL cL : Nat) (L : List Nat) (h : Rr p B a0 cap b m w t o 0 a) (hl : L.length ≤ 320) (h15 : ∀ x ∈ L, x ≤ 15) (hok : (checkP L).2 = 0) (hL : RI w aL nL cL (natI L)) :
    Calls Try.prog 100 #[.pointer (some ⟨p, 0, none⟩), .slice aL nL cL] w (FieldPost p B a0 cap b m w a (symM L b m t o)) := by
  obtain ⟨c, c0, c1, c2, c3, c4, f1, f2, f4, -⟩ := h.cells
  have hbl := h.bl
  have htl := h.tl
  have hX := fun w h hb => read_any aL a0 nL cL b.length cap t L b w hl h15 hok h rfl hbl htl hb
  have hg := @(good_sym L).mono b 0 t []
  have herr : ∀ e, symM L b 0 t [] = .no e → e ≠ 0 ∧ e < 100 := fun e h => errs_sym L h
  rw [symM_state]
  have hLd : RI w.drew aL nL cL (natI L) := rd_drewN hL 1
  have hRd : Rr p B a0 cap b m w.drew t o 0 a := h.drew
  have hSd : Stp p w a w.drew a := (Stp.refl p w a).drew
  cases hr : symM L b 0 t [] with
  | ok s t' o' =>
    simp only [hr] at hX
    obtain ⟨hg1, hg2, -⟩ := hg hr
    have hg2 := hg2 htl
    clear hr hg herr
    go_enter Try.func100, Try.ntmps100
    go_wp2
    go_region_held3 (fun w' => w'.cell? ⟨p, 0, none⟩ = some (.slice a0 b.length cap) ∧ w'.cell? ⟨p, 1, none⟩ = some (.int .i64 (t : Int)))
      (first | go_keep | exact ⟨c01, c11⟩)
      (first | (go_at_call 111; go_must (refine (hX _ hLd hRd.rb).mono ?_); rintro e w1 ⟨rfl, hb1⟩
                have hR1 := hRd.new hb1
                obtain ⟨cc, c01, c11, c21, c31, c41, f11, f21, f41, -⟩ := hR1.cells))
    go_wp2
    go_ret
    exact ⟨a, rfl, (hSd.trans (Stp.of_below hb1)).set 1 _, hR1.set_t t' (by omega) hg2⟩
  | no e =>
    simp only [hr] at hX
    have he := herr _ hr
    clear hr hg herr
    have d : ((e : Int) != 0) = true := by simp; omega
    go_enter Try.func100, Try.ntmps100
    go_wp2
    go_region_held3 (fun w' => w'.cell? ⟨p, 0, none⟩ = some (.slice a0 b.length cap) ∧ w'.cell? ⟨p, 1, none⟩ = some (.int .i64 (t : Int)))
      (first | go_keep | exact ⟨c01, c11⟩)
      (first | (go_at_call 111; go_must (refine (hX _ hLd hRd.rb).mono ?_); rintro e w1 ⟨rfl, hb1⟩
                have hR1 := hRd.new hb1
                obtain ⟨cc, c01, c11, c21, c31, c41, f11, f21, f41, -⟩ := hR1.cells))
    go_wp2_with (first
      | (go_at_call 88; go_must (refine (fails_live e hR1).mono ?_); rintro e w2 ⟨rfl, hs2, hR2⟩
         obtain ⟨c, c0, c1, c2, c3, c4, f1, f2, f4, -⟩ := hR2.cells))
    go_ret
    exact ⟨a, t, o, rfl, ((hSd.trans (Stp.of_below hb1)).trans hs2).set 1 _, hR2.set_t t (by omega) htl⟩
end
end Go.Proofs.Ytpfalaghggjbjaa
